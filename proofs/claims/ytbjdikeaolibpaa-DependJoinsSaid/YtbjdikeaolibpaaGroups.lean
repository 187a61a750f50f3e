/-
  The contract of depend.Groups.
-/
import Derived.Test.YtbjdikeaolibpaaReach
import Derived.Test.YtbjdikeaolibpaaIter
import Derived.Test.YtbjdikeaolibpaaNames
import Derived.Test.YtbjdikeaolibpaaGrp
import Derived.WalkMore
namespace Go.Proofs.Ytbjdikeaolibpaa
open Go.RowKit Go.Shelf

theorem mNd : Try.prog.underlying 102 = some (.map 9 85) := Try.underlying102

/-- the sets that the names of N reach -/
def NeedsAt (w : World) (ND : Nat) (F : List Ed) (N : List ByteArray) : Prop := ∃ kv : List (ByteArray × Value), MapAt w encB ND kv ∧ ∀ n ∈ N, ∃ R, aget kv n = some (.map (some R)) ∧ SetAt w R (Rch F n)
theorem NeedsAt.ch {w w' : World} {ND : Nat} {F : List Ed} {N : List ByteArray} (h : NeedsAt w ND F N) (hc : Ch [] w w') : NeedsAt w' ND F N := by
  obtain ⟨kv, h1, h2⟩ := h
  exact ⟨kv, h1.ch hc (by simp), fun n hn => by obtain ⟨R, h3, h4⟩ := h2 n hn; exact ⟨R, h3, h4.ch hc (by simp)⟩⟩
theorem zM (w : World) : (zeroValue 85).run Try.prog w = .ok (.map none) w := Try.zeroValue85 w
theorem NeedsAt.look {w : World} {ND : Nat} {F : List Ed} {N : List ByteArray} (h : NeedsAt w ND F N) {n : ByteArray} (hn : n ∈ N) :
    ∃ R, (Instr.lookup 102 (.map (some ND)) (.string n) false).run Try.prog w = .ok (.map (some R)) w ∧ SetAt w R (Rch F n) := by
  obtain ⟨kv, hM, hall⟩ := h
  obtain ⟨R, hg, hS⟩ := hall n hn
  have := hM.look kS mNd (zM w) n false
  rw [hg] at this
  exact ⟨R, by simpa [encB] using this, hS⟩
theorem SetAt.look {w : World} {R : Nat} {F : List Ed} {n : ByteArray} (h : SetAt w R (Rch F n)) (m : ByteArray) : (Instr.lookup 85 (.map (some R)) (.string m) false).run Try.prog w = .ok (.bool (rb F n m)) w := by
  obtain ⟨kv, hM, hS, hv⟩ := h
  have := look_b hM m
  rw [get_true hS hv m (c := rb F n m) (rb_iff F n m)] at this
  exact this
/-- the groups that are listed -/
def OutU (w : World) (base : Nat) (v : Value) (out : List (List ByteArray)) (us : List Value) : Prop :=
  us.length = out.length ∧ Own w base 38 1 v (us.map fun u => [u]) ∧ ∀ (i : Nat) (u : Value) (x : List ByteArray), us[i]? = some u → out[i]? = some x → SlS (fun b => base ≤ b ∧ v.ownBlock ≠ some b) w u x
def OutAt (w : World) (base : Nat) (v : Value) (out : List (List ByteArray)) : Prop := ∃ us, OutU w base v out us
theorem OutAt.nil (w : World) (base : Nat) : OutAt w base (.slice none 0 0) [] := ⟨[], rfl, Own.nil _ _ _ _, by simp⟩
theorem OutU.ch {S : List Nat} {w w' : World} {base : Nat} {v : Value} {out : List (List ByteArray)} {us : List Value} (h : OutU w base v out us) (hc : Ch S w w') (hS : ∀ x ∈ S, x < base ∨ w.heap.size ≤ x) : OutU w' base v out us := by
  obtain ⟨h1, h2, h3⟩ := h
  refine ⟨h1, h2.ch hc (fun b hb hm => ?_), fun i u x hu hx => (h3 i u x hu hx).ch hc (fun b hb hp hm => ?_)⟩
  · have := h2.lt hb; rcases hS b hm with h | h <;> omega
  · rcases hS b hm with h | h <;> omega
theorem OutU.len {w : World} {base : Nat} {v : Value} {out : List (List ByteArray)} {us : List Value} (h : OutU w base v out us) : lenV v = out.length := by
  obtain ⟨h1, h2, _⟩ := h
  obtain ⟨a, c, rfl⟩ := h2.form'
  simp [lenV, h1]
theorem OutU.slss {w : World} {base : Nat} {v : Value} {out : List (List ByteArray)} {us : List Value} (h : OutU w base v out us) : SlSS (fun b => base ≤ b) w v out :=
  ⟨us, h.1, h.2.1.sl.weak (fun _b _ hb => hb.1), fun i u x hu hx => (h.2.2 i u x hu hx).weak (fun _b _ hb => hb.1)⟩
theorem SlSS.weak {p q : Nat → Prop} {w : World} {v : Value} {l : List (List ByteArray)} (h : SlSS p w v l) (hk : ∀ b, b < w.heap.size → p b → q b) : SlSS q w v l :=
  SlN.imp h (Nat.le_refl _) (fun b hb h1 => ⟨hk b hb h1, rfl⟩) (fun _ _ _ h => SlS.weak h hk)
theorem OutU.add {w w' : World} {base : Nat} {v v' gv : Value} {out : List (List ByteArray)} {us : List Value} {g : List ByteArray} (h : OutU w base v out us) (hg : SlS (fun b => base ≤ b ∧ v.ownBlock ≠ some b) w gv g) (hc : Ch v.ownBlock.toList w w')
    (hat : v'.ownBlock = v.ownBlock ∨ v'.ownBlock = some w.heap.size) (ho : Own w' base 38 1 v' ((us.map fun u => [u]) ++ [[gv]])) : OutAt w' base v' (out ++ [g]) := by
  have key : ∀ (u : Value) (x : List ByteArray), SlS (fun b => base ≤ b ∧ v.ownBlock ≠ some b) w u x → SlS (fun b => base ≤ b ∧ v'.ownBlock ≠ some b) w' u x := by
    intro u x hs
    refine Sl.imp hs hc.size fun b hb hp => ⟨⟨hp.1, fun e => ?_⟩, hc.block b hb (fun hm => ?_)⟩
    · rcases hat with h1 | h1
      · exact hp.2 (h1 ▸ e)
      · rw [h1] at e; injection e with e; omega
    · cases hv : v.ownBlock with
      | none => rw [hv] at hm; cases hm
      | some g' => rw [hv] at hm; simp at hm; subst hm; exact hp.2 hv
  refine ⟨us ++ [gv], by simp [h.1], by simpa using ho, fun i u x hu hx => ?_⟩
  rcases Nat.lt_or_ge i us.length with hi | hi
  · rw [List.getElem?_append_left hi] at hu
    rw [List.getElem?_append_left (by rw [← h.1]; exact hi)] at hx
    exact key _ _ (h.2.2 i u x hu hx)
  · rw [List.getElem?_append_right hi] at hu
    rw [List.getElem?_append_right (by rw [← h.1]; exact hi)] at hx
    rw [h.1] at hu
    cases hd : i - out.length with
    | zero =>
      rw [hd] at hu hx
      simp at hu hx
      subst hu hx
      exact key _ _ hg
    | succ m => rw [hd] at hu; simp at hu
theorem or_add (s y : ByteArray) (l g : List ByteArray) : (s ∈ l ∨ s ∈ g ++ [y]) ↔ s = y ∨ (s ∈ l ∨ s ∈ g) := by
  rw [List.mem_append, List.mem_singleton]
  constructor
  · rintro (h | h | h)
    · exact .inr (.inl h)
    · exact .inr (.inr h)
    · exact .inl h
  · rintro (h | h | h)
    · exact .inr (.inr h)
    · exact .inl h
    · exact .inr (.inl h)
theorem insOf_snoc (es : List Ed) (N : List ByteArray) (k : Nat) (h : k < es.length) : insOf (es.take (k + 1)) N = if (hasS N es[k].f && hasS N es[k].t) then insOf (es.take k) N ++ [es[k]] else insOf (es.take k) N := by
  simp only [insOf, take_snoc es k h, List.filter_append, List.filter_cons, List.filter_nil]
  split <;> simp
theorem insOf_len (es : List Ed) (N : List ByteArray) : (insOf es N).length ≤ es.length := List.length_filter_le _ _
theorem insAll_le (l : List ByteArray) : (insAll l).length ≤ l.length := (asc_nodup sLt_sto (asc_insAll l)).length_le_of_subset fun x hx => (mem_insAll l x).1 hx

set_option maxRecDepth 100000 in
set_option maxHeartbeats 4000000 in
theorem depGroups (p q) (v vn : Value) (es : List Ed) (names : List ByteArray) (w : World) (h : SlE p w v es) (hn : SlS q w vn names) (hf : es.length ≤ 1000000) (hfn : names.length ≤ 1000000) :
    Calls Try.prog 47 #[v, vn] w fun r w' => ∃ v', r = .returned v' ∧ SlSS (fun b => w.heap.size ≤ b) w' v' (groupsOf es names) ∧ Ch [] w w' := by
  obtain ⟨a, c, rfl, hlc, hm⟩ := h.form
  obtain ⟨an, cn, rfl, hlcn, hmn⟩ := hn.form
  unfold maxLen at hm hmn
  have hmm := @run_makeMap Try.prog
  have hsv := sortedValues q _ names w hn (by omega)
  go_enter Try.func47, Try.ntmps47
  go_wp2_with (first
    | (go_at_call 73; refine (values_ _ _ ⟨_, _, _, rfl⟩).mono ?_; rintro e w1 ⟨rfl, rfl⟩)
    | (go_at_call 72; refine hsv.mono ?_; rintro e w2 ⟨v2, rfl, hrow2, hc2⟩)
    | (go_at_call 71; refine (compactOwn _ v2 names w2 (by omega) hrow2).mono ?_; rintro e w3 ⟨v3, rfl, hc3, hN3⟩))
  have hB3 : Ch [] w w3 := hc2.step hc3 (fun x hx => .inr (by
    cases ho : v2.ownBlock with
    | none => rw [ho] at hx; cases hx
    | some g => rw [ho] at hx; have := (hrow2.lt g ho).1; simp at hx; omega))
  obtain ⟨N, hNe⟩ : ∃ N, N = insAll names := ⟨_, rfl⟩
  have hNl : N.length ≤ 1000000 := by rw [hNe]; have := insAll_le names; omega
  have HA : Hid (Asc sLt N) := by rw [hNe]; exact asc_insAll names
  have HR : Hid (groupsOf es names = stepGo (insOf es N) N N.length []) := by rw [hNe]; rfl
  rw [← hNe] at hN3
  clear hNe hsv hrow2 hc2 hc3 hn
  obtain ⟨a3, c3, rfl, hlc3, hm3⟩ := hN3.form
  unfold maxLen at hm3
  go_loopw [5, 30] (fun ins i wr => ∃ k : Nat, k ≤ es.length ∧ i = .int .i64 k ∧ Ch [] w3 wr ∧ Own wr w3.heap.size 65 3 ins ((insOf (es.take k) N).map Ed.enc)) (fun _ i _ => es.length - (intOf i).toNat)
  case atStart => exact ⟨0, Nat.zero_le _, rfl, Ch.refl _ _, Own.nil _ _ _ _⟩
  case round =>
    obtain ⟨k, hk, rfl, hB, ho⟩ := hrel
    by_cases hlt : k < es.length
    · obtain ⟨b, o, rfl, hp, c0, c1, c2⟩ := h.at_ hlt
      have hBw := hB3.trans hB
      have c0 := cell_ch c0 hBw (by simp)
      have c1 := cell_ch c1 hBw (by simp)
      have c2 := cell_ch c2 hBw (by simp)
      have HS := Lib.hid (insOf_snoc es N k hlt)
      have hil := insOf_len (es.take k) N
      rw [List.length_take] at hil
      generalize es[k] = x at *
      generalize insOf (es.take k) N = ins0 at *
      obtain ⟨xf, hxf⟩ : ∃ xf, xf = x.f := ⟨_, rfl⟩
      obtain ⟨xt, hxt⟩ : ∃ xt, xt = x.t := ⟨_, rfl⟩
      rw [← hxf] at c0
      rw [← hxt] at c1
      have hbox := Blk.new wr 65 #[.string xf, .string xt, .bool x.n]
      have hNA := hN3.ch0 (hB.alloc (.cells #[.string xf, .string xt, .bool x.n] 65))
      have hcA := hB.alloc (.cells #[.string xf, .string xt, .bool x.n] 65)
      have hoA := ho.ch ((Ch.refl [] wr).alloc (.cells #[.string xf, .string xt, .bool x.n] 65)) (by simp)
      have HXF := Lib.hid hxf; clear hxf
      have HXT := Lib.hid hxt; clear hxt
      go_wp2_with (first
        | (go_at_call_of 74 xf; refine (binSearch _ _ _ _ _ hNA HA (by omega)).mono ?_; rintro e w4 ⟨i4, rfl, hc4⟩; have hbox4 := hbox.ch hc4 (by simp); have d1 := hbox4.cell 1)
        | (go_at_call_of 74 xt; refine (binSearch _ _ _ _ _ (hNA.ch0 hc4) HA (by omega)).mono ?_; rintro e w5 ⟨i5, rfl, hc5⟩; have hbox5 := hbox4.ch hc5 (by simp); have e0 := hbox5.cell 0; have e1 := hbox5.cell 1; have e2 := hbox5.cell 2)
        | (at_builtin; refine wpList_append_sl rfl _ _ _ rfl elE (base := w3.heap.size) (v := u5) (css := (ins0).map Ed.enc) rfl (((hoA.ch hc4 (by simp)).ch hc5 (by simp)).ch ((Ch.refl [] w5).alloc _) (by simp)) rfl (Sl.one w5 3 _ [.string xf, .string xt, .bool x.n] rfl (by simp [Value.oneCell'])) (by simp; omega) (by have := ((hcA.trans hc4).trans hc5).size; simp; omega) ?_; intro v6 w6 ho6 hc6 hat6 hn6; clear hn6))
      · have h1 : hasS N xf = true := by assumption
        have h2 : hasS N xt = true := by assumption
        have hcw := (((hcA.trans hc4).trans hc5).alloc (.cells #[.string xf, .string xt, .bool x.n] 65)).step hc6 (fun y hy => .inr (by
          cases hu : u5.ownBlock with
          | none => rw [hu] at hy; cases hy
          | some g => rw [hu] at hy; simp at hy; subst hy; exact (ho.lt hu).1))
        go_roundw
        case rel => exact ⟨k + 1, by omega, by go_num, hcw, by rw [HS.out, ← HXF.out, ← HXT.out, h1, h2]; simp only [Bool.and_self, if_true, List.map_append]; simpa [Ed.enc, HXF.out, HXT.out] using ho6⟩
        case measure => simp [intOf]; omega
      · have h1 : hasS N xf = true := by assumption
        have h2 : hasS N xt = false := by assumption
        go_roundw
        case rel => exact ⟨k + 1, by omega, by go_num, (hcA.trans hc4).trans hc5, by rw [HS.out, ← HXF.out, ← HXT.out, h1, h2, if_neg (by simp)]; exact (hoA.ch hc4 (by simp)).ch hc5 (by simp)⟩
        case measure => simp [intOf]; omega
      · have h1 : ¬ hasS N xf = true := by assumption
        have h1 : hasS N xf = false := by simpa using h1
        go_roundw
        case rel => exact ⟨k + 1, by omega, by go_num, (hcA.trans hc4).trans hc5, by rw [HS.out, ← HXF.out, h1, Bool.false_and, if_neg (by simp)]; exact (hoA.ch hc4 (by simp)).ch hc5 (by simp)⟩
        case measure => simp [intOf]; omega
    · have : k = es.length := by omega
      subst this
      rw [List.take_length] at ho
      have hil := insOf_len es N
      have HTT : Hid (∀ n m, Rch (insOf es N) n m → m ∈ N) := fun n m hm => insOf_target hm
      have hN3r := hN3.ch0 hB
      have hins : SlE (fun b => w3.heap.size ≤ b ∧ u5.ownBlock = some b) wr u5 (insOf es N) := ho.sl
      generalize insOf es N = F at *
      have hBw := hB3.trans hB
      clear ho
      go_wp2_with (go_at_call 70; refine (following_ _ _ _ _ hins (by omega)).mono ?_; rintro e w7 ⟨B7, rfl, hB7, hn7, hc7⟩)
      have hN7 := hN3r.ch0 hc7
      have hBw7 := hBw.trans hc7
      clear hN3r
      have hM0 : MapAt (w7.alloc (.map #[] 0)) encB w7.heap.size [] := MapAt.new _ _
      go_loopw [62] (fun i wr => ∃ (k : Nat) (kv : List (ByteArray × Value)), k ≤ N.length ∧ i = .int .i64 k ∧ Ch [] w7 wr ∧ MapAt wr encB w7.heap.size kv ∧ Hid (∀ n ∈ N.take k, ∃ R, aget kv n = some (.map (some R)) ∧ w7.heap.size < R ∧ SetAt wr R (Rch F n))) (fun i _ => N.length - (intOf i).toNat)
      case atStart => exact ⟨0, [], Nat.zero_le _, rfl, (Ch.refl _ _).alloc _, hM0, by simp [Hid]⟩
      case round =>
        obtain ⟨k, kv, hk, rfl, hB, hM, HS⟩ := hrel
        by_cases hlt : k < N.length
        · obtain ⟨b, o, rfl, hp, c0⟩ := hN7.at_ hlt
          have c0 := cell_ch c0 hB (by simp)
          have HT := Lib.hid (take_snoc N k hlt)
          have hml := hM.lt
          generalize N[k] = x at *
          go_wp2_with (first
            | (go_at_call 69; refine (reached_ _ _ _ x _ (hn7.ch hB) (by omega)).mono ?_; rintro e w8 ⟨R, rfl, hR, hS8, hc8⟩)
            | (at_mapUpdate; refine wpl_upd rfl _ _ _ _ rfl kS mNd rfl (b := w7.heap.size) (kv := kv) (hM.ch hc8 (by simp)) x rfl (val := .map (some R)) rfl ?_; intro w9 hm9 hc9 hs9))
          have hcw := (hB.trans hc8).step hc9 (by simp)
          go_roundw
          case rel =>
            refine ⟨k + 1, _, by omega, by go_num, hcw, hm9, ?_⟩
            intro n hn
            rw [aget_aset]
            by_cases hnx : n = x
            · subst hnx
              exact ⟨R, by rw [if_pos rfl], by omega, hS8.ch hc9 (by simp; omega)⟩
            · rw [if_neg hnx]
              rw [HT.out, List.mem_append, List.mem_singleton] at hn
              obtain ⟨R', h1, h2, h3⟩ := HS.out n (hn.resolve_right hnx)
              exact ⟨R', h1, h2, (h3.ch hc8 (by simp)).ch hc9 (by simp; omega)⟩
          case measure => simp [intOf]; omega
        · have : k = N.length := by omega
          subst this
          rw [List.take_length] at HS
          have hnd : NeedsAt wr w7.heap.size F N := ⟨kv, hM, fun n hn => by obtain ⟨R, h1, _, h3⟩ := HS.out n hn; exact ⟨R, h1, h3⟩⟩
          have HND := Lib.hid hnd; clear hnd
          have hNr := hN7.ch0 hB
          have hBwr := hBw7.trans hB
          obtain ⟨w0, rfl⟩ : ∃ w0 : World, w0 = wr := ⟨_, rfl⟩
          go_wp2
          have HT : Hid (∀ n m, Rch F n m → m ∈ N) := HTT
          have HNN : Hid N.Nodup := asc_nodup sLt_sto HA.out
          go_loopw [17] (fun ov wr => ∃ (out : List (List ByteArray)) (us : List Value) (kv : List (ByteArray × Value)) (k : Nat), Ch [] w0 wr ∧ MapAt wr encB w0.heap.size kv ∧ Hid (∀ x ∈ kv, x.2 = .bool true) ∧ Hid (SetOf (fun s => s ∈ out.flatten) kv) ∧ OutU wr (w0.heap.size + 1) ov out us ∧ lenV ov = out.length ∧
              Hid (GInv F N out) ∧ Hid (stepGo F N k out = stepGo F N N.length []) ∧ k + out.length = N.length) (fun ov _ => N.length - lenV ov)
          case atStart => exact ⟨[], [], [], N.length, (Ch.refl _ _).alloc _, MapAt.new _ _, by simp [Hid], SetOf.empty (by simp), ⟨rfl, Own.nil _ _ _ _, by simp⟩, rfl, GInv.start F N, rfl, by simp⟩
          case round =>
            obtain ⟨out, us, kv, k, hB, hM, HV, HS, hO, hlv, HG, HX, hko⟩ := hrel
            obtain ⟨ov, rfl⟩ : ∃ ov : Value, ov = u17 := ⟨_, rfl⟩
            have HLV := Lib.hid hlv; clear hlv
            have hkl : kv.length = out.flatten.length := by
              have a1 := HS.out.1.length_le_of_subset (l₂ := out.flatten) (fun x hx => (HS.out.2 x).1 hx)
              have a2 := HG.out.nd.length_le_of_subset (l₂ := kv.map (·.1)) (fun x hx => (HS.out.2 x).2 hx)
              rw [List.length_map] at a1 a2; omega
            have HKL := Lib.hid hkl; clear hkl
            by_cases hfin : kv.length < N.length
            · have hkv : kv.length ≤ 1000000 := by omega
              go_wp2_with (first | (at_len; refine wpl_len rfl _ _ rfl mS rfl hM ?_))
              have hex := HG.out.some_ready HT.out HNN.out (by rw [← HKL.out]; exact hfin)
              have HEX := Lib.hid hex; clear hex
              go_step3
              go_wp2
              go_step3
              go_wp2
              obtain ⟨wo, rfl⟩ : ∃ wo : World, wo = wr := ⟨_, rfl⟩
              go_loopw [17, 80] (fun o' i wq => ∃ j : Nat, o' = ov ∧ j ≤ N.length ∧ i = .int .i64 j ∧ Ch [] wo wq ∧ Hid (∀ i (hi : i < N.length), i < j → readyB F out.flatten N[i] = false)) (fun _ i _ => N.length - (intOf i).toNat)
              case atStart => exact ⟨0, rfl, Nat.zero_le _, rfl, Ch.refl _ _, by intro i _ h; omega⟩
              case round =>
                obtain ⟨j, rfl, hj, rfl, hB4, HN4⟩ := hrel
                have hB04 := hB.trans hB4
                have hM4 := hM.ch hB4 (by simp)
                by_cases hlt4 : j < N.length
                · obtain ⟨b4, o4, rfl, hp4, c4⟩ := hNr.at_ hlt4
                  have c4 := cell_ch c4 hB04 (by simp)
                  have hmem : N[j] ∈ N := List.getElem_mem hlt4
                  have HF4 := Lib.hid (fun hq => find_at (q := readyB F out.flatten) hlt4 hq (fun i hi => HN4.out i (by omega) hi))
                  have hstep : readyB F out.flatten N[j] = false → ∀ i (hi : i < N.length), i < j + 1 → readyB F out.flatten N[i] = false := by
                    intro hf i hi hij
                    rcases Nat.lt_succ_iff_lt_or_eq.1 hij with h1 | h1
                    · exact HN4.out i hi h1
                    · subst h1; exact hf
                  have HST := Lib.hid hstep; clear hstep
                  generalize N[j] = x at *
                  have hl4 := look_b hM4 x
                  rw [get_true HS.out HV.out x (c := hasS out.flatten x) (by simp only [hasS, decide_eq_true_eq])] at hl4
                  obtain ⟨R, hlR, hSR⟩ := (HND.out.ch hB04).look hmem
                  cases hhx : hasS out.flatten x with
                  | true =>
                    rw [hhx] at hl4
                    go_wp2
                    go_roundw
                    case rel => exact ⟨j + 1, rfl, by omega, by go_num, hB4, HST.out (by simp [readyB, hhx])⟩
                    case measure => simp [intOf]; omega
                  | false =>
                    rw [hhx] at hl4
                    have HHX := Lib.hid hhx; clear hhx
                    obtain ⟨kvR, hMR, hSR, hvR⟩ := hSR
                    have HSR := Lib.hid hSR; clear hSR
                    have HVR := Lib.hid hvR; clear hvR
                    go_wp2_with (first | (at_range; refine wpl_range rfl _ _ rfl mS rfl hMR ?_; intro w10 hit10 hc10 hg10 hs10))
                    go_frame
                    obtain ⟨wn, rfl⟩ : ∃ wn : World, wn = wr := ⟨_, rfl⟩
                    go_loopw [20] (fun _ wq => ∃ left : List (ByteArray × Value), ItAt wq encB R wn.heap.size kvR left ∧ Ch [] wn wq ∧ Hid (∀ y ∈ kvR.map (·.1), y ∈ left.map (·.1) ∨ (y ∈ out.flatten ∨ rb F y x = true))) (fun _ wq => itLeft encB R wn.heap.size wq)
                    case atStart => exact ⟨kvR, hit10, hc10, fun y hy => .inl hy⟩
                    case round =>
                      obtain ⟨left, hit5, hB5, HC5⟩ := hrel
                      have hml5 := hit5.left_eq
                      go_wp2_with (first | (at_next; refine wpl_next rfl _ rfl rfl hit5 ?_ ?_))
                      · intro hl
                        have hready : readyB F out.flatten x = true := by
                          rw [readyB_iff]
                          refine ⟨by have := HHX.out; simpa [hasS] using this, fun m hm => ?_⟩
                          rcases HC5.out m ((HSR.out.2 m).2 hm) with h1 | h1 | h1
                          · rw [hl] at h1; cases h1
                          · exact .inl h1
                          · exact .inr ((rb_iff _ _ _).1 h1)
                        have HFIND := Lib.hid (HF4.out hready)
                        go_wp2
                        obtain ⟨wf, rfl⟩ : ∃ wf : World, wf = wr := ⟨_, rfl⟩
                        have hB0f := hB04.trans hB5
                        have hsL : w0.heap.size < wf.heap.size := (hM4.ch hB5 (by simp)).lt
                        go_loopw [21, 109] (fun gv i wq => ∃ (m : Nat) (kv' : List (ByteArray × Value)), m ≤ N.length ∧ i = .int .i64 m ∧ Ch [w0.heap.size] wf wq ∧ Own wq wf.heap.size 9 1 gv (((N.take m).filter (inG F x)).map encS) ∧ MapAt wq encB w0.heap.size kv' ∧
                            Hid (∀ x ∈ kv', x.2 = .bool true) ∧ Hid (SetOf (fun s => s ∈ out.flatten ∨ s ∈ (N.take m).filter (inG F x)) kv')) (fun _ i _ => N.length - (intOf i).toNat)
                        case atStart => exact ⟨0, kv, Nat.zero_le _, rfl, Ch.refl _ _, Own.nil _ _ _ _, hM4.ch hB5 (by simp), HV, HS.out.iff (fun s => by simp)⟩
                        case round =>
                          obtain ⟨m, kv', hm6, rfl, hB6, ho6, hM6, HV6, HS6⟩ := hrel
                          have hB06 : Ch [] w0 wr := hB0f.step hB6 (by simp)
                          by_cases hlt6 : m < N.length
                          · obtain ⟨b6, o6, e6, hp6, c6⟩ := hNr.at_ hlt6
                            injection e6 with e6
                            injection e6 with e61 e62
                            subst e61 e62
                            have c6 := cell_ch c6 hB06 (by simp)
                            have hyN : N[m] ∈ N := List.getElem_mem hlt6
                            have HT6 := Lib.hid (take_snoc N m hlt6)
                            have hfl6 := List.length_filter_le (inG F x) (N.take m)
                            rw [List.length_take] at hfl6
                            have HIG : Hid (inG F x N[m] = ((N[m].toList == x.toList) || (rb F x N[m] && rb F N[m] x))) := by rw [Hid, inG, beqS]
                            generalize N[m] = y at *
                            obtain ⟨Rx, hlRx, hSRx⟩ := (HND.out.ch hB06).look hmem
                            have hlx := hSRx.look y
                            obtain ⟨Ry, hlRy, hSRy⟩ := (HND.out.ch hB06).look hyN
                            have hly := hSRy.look x
                            have hBlk6 : ∀ g, u21.ownBlock = some g → wf.heap.size ≤ g := fun g hg => (ho6.lt hg).1
                            have HBK := Lib.hid hBlk6; clear hBlk6
                            have hfl : ∀ b : Bool, inG F x y = b → (N.take (m + 1)).filter (inG F x) = if b then (N.take m).filter (inG F x) ++ [y] else (N.take m).filter (inG F x) := by
                              intro b hb
                              rw [HT6.out, List.filter_append, List.filter_cons, hb]
                              cases b <;> simp
                            have HFL := Lib.hid hfl; clear hfl
                            generalize (N.take m).filter (inG F x) = g0 at *
                            cases hq : (y.toList == x.toList) <;> cases h1 : rb F x y <;> cases h2 : rb F y x <;> rw [hq, h1, h2] at HIG <;> rw [h1] at hlx <;> rw [h2] at hly <;> have hin := HIG.out <;> clear HIG <;> simp only [Bool.or_true, Bool.and_true, Bool.and_false, Bool.or_false, Bool.and_self, Bool.or_self] at hin <;> have HFX := Lib.hid (HFL.out _ hin) <;> clear HFL hin <;>
                            (have H1 := Lib.hid h1; clear h1; have H2 := Lib.hid h2; clear h2
                             go_wp2_with (first
                              | (at_builtin; refine wpList_append_sl rfl _ _ _ rfl elS (base := wf.heap.size) (v := u21) (css := g0.map encS) rfl (ho6.ch ((Ch.refl [] wr).alloc _) (by simp)) rfl (Sl.one wr 1 _ [.string y] rfl (by simp [Value.oneCell'])) (by simp; omega) (by have := hB6.size; simp; omega) ?_; intro v7 w12 ho7 hc7 hat7 hn7; clear hn7)
                              | (at_mapUpdate; refine wpl_upd rfl _ _ _ _ rfl kS mS rfl (b := w0.heap.size) (kv := kv') ((hM6.alloc _).ch hc7 (by
                                  intro hx
                                  cases hu : u21.ownBlock with
                                  | none => rw [hu] at hx; cases hx
                                  | some g => rw [hu] at hx; simp at hx; have := HBK.out g hu; omega)) y rfl (val := .bool true) rfl ?_; intro w13 hm13 hc13 hs13))
                             go_roundw
                             case rel => first
                              | exact ⟨m + 1, kv', by omega, by go_num, hB6, by rw [HFX.out]; exact ho6, hM6, HV6, HS6.out.iff (fun s => by rw [HFX.out, if_neg (by decide)])⟩
                              | exact ⟨m + 1, _, by omega, by go_num, ((hB6.alloc _).step hc7 (fun z hz => .inr (by
                                  cases hu : u21.ownBlock with
                                  | none => rw [hu] at hz; cases hz
                                  | some g => rw [hu] at hz; simp at hz; have := HBK.out g hu; omega))).step hc13 (fun z hz => .inl hz), by rw [HFX.out, if_pos rfl, List.map_append]; exact ho7.ch hc13 (fun g hg hz => by simp at hz; subst hz; have := (ho7.lt hg).1; omega), hm13, true_aset hM6.nodup HV6.out y, HS6.out.add y _ (fun s => by rw [HFX.out, if_pos rfl]; exact or_add s y out.flatten g0)⟩
                             case measure => simp [intOf]; omega)
                          · have : m = N.length := by omega
                            subst this
                            rw [List.take_length] at ho6 HS6
                            have hgl : (N.filter (inG F x)).length ≤ N.length := List.length_filter_le _ _
                            have hkk : ∃ k', k = k' + 1 := by
                              have a1 := HG.out.len
                              have a2 := HKL.out
                              exact ⟨k - 1, by omega⟩
                            obtain ⟨k', rfl⟩ := hkk
                            have hst2 := stepGo_at (k := k') HFIND.out
                            have hgi := HG.out.step HT.out HNN.out hmem hready
                            unfold grpOf at hst2 hgi
                            generalize N.filter (inG F x) = gr at *
                            have HST2 := Lib.hid hst2; clear hst2
                            have HGI := Lib.hid hgi; clear hgi
                            have hrd := hready; clear hrd hready
                            obtain ⟨ag, cg, rfl, _, _⟩ := SlS.form (show SlS _ wr u21 gr from ho6.sl)
                            have hcfr : Ch [w0.heap.size] wo wr := ((hB4.trans hB5).of_nil).trans hB6
                            have hOr := hO.ch hcfr (fun z hz => by simp at hz; omega)
                            have hOa := hOr.ch ((Ch.refl [] wr).alloc (.cells #[.slice ag gr.length cg] 38)) (by simp)
                            have hgS : SlS (fun b => w0.heap.size + 1 ≤ b ∧ u17.ownBlock ≠ some b) wr (.slice ag gr.length cg) gr := Sl.weak ho6.sl (fun b hb hp => ⟨by have := hp.1; omega, fun e => by have a1 := (hO.2.1.lt e).2; have a2 := (hB4.trans hB5).size; have a3 := hp.1; omega⟩)
                            have hgA := hgS.ch0 ((Ch.refl [] wr).alloc (.cells #[.slice ag gr.length cg] 38))
                            have hul : us.length ≤ 1000000 := by rw [hO.1]; have := HG.out.len; have := HKL.out; omega
                            have hovB : ∀ g, u17.ownBlock = some g → w0.heap.size + 1 ≤ g := fun g hg => (hO.2.1.lt hg).1
                            have HOV := Lib.hid hovB; clear hovB
                            have hsz6 := hB6.size
                            have HOA := Lib.hid hOa
                            have HGA := Lib.hid hgA; clear hgA
                            have hown := hOa.2.1
                            have HKO := Lib.hid hko; clear hko
                            clear hOa hOr hgS ho6
                            go_wp2_with (first
                              | (at_builtin; refine wpList_append_sl rfl _ _ _ rfl elSS (base := w0.heap.size + 1) (v := u17) (css := us.map fun u => [u]) rfl hown rfl (Sl.one wr 1 _ [.slice ag gr.length cg] rfl (by simp [Value.oneCell'])) (by simp; omega) (by simp; omega) ?_; intro v8 w14 ho8 hc8 hat8 hn8; clear hn8))
                            rw [Exit.noGoto_normal]
                            have hM14 := (hM6.alloc (.cells #[.slice ag gr.length cg] 38)).ch hc8 (by
                              intro hx
                              cases hu : u17.ownBlock with
                              | none => rw [hu] at hx; cases hx
                              | some g => rw [hu] at hx; simp at hx; have := HOV.out g hu; omega)
                            have hcw14 : Ch [] w0 w14 := (hB06.alloc _).step hc8 (by
                              intro z hx
                              cases hu : u17.ownBlock with
                              | none => rw [hu] at hx; cases hx
                              | some g => rw [hu] at hx; simp at hx; have := HOV.out g hu; right; omega)
                            obtain ⟨us', hU⟩ := OutU.add HOA.out HGA.out hc8 hat8 ho8
                            have hlU := hU.len
                            have hfla : (out ++ [gr]).flatten = out.flatten ++ gr := by simp
                            refine ⟨?_, ?measure⟩
                            iterate 40 apply Exists.intro
                            repeat apply Exists.intro
                            refine ⟨?rel, rfl⟩
                            case rel => exact ⟨out ++ [gr], us', kv', k', hcw14, hM14, HV6, HS6.out.iff (fun s => by rw [hfla, List.mem_append]), hU, hlU, HGI, by unfold Hid; rw [← HST2.out, HX.out], by have := HKO.out; simp; omega⟩
                            case measure =>
                              show N.length - lenV v8 < N.length - lenV u17
                              rw [hlU, HLV.out]
                              have a1 := HG.out.len
                              have a2 := HKL.out
                              simp only [List.length_append, List.length_cons, List.length_nil]; omega
                      · intro y c left' w11 hperm hy hit11 hc11 hg11 hs11 hen
                        have hB11 : Ch [] wn w11 := hB5.step hc11 (by simp)
                        have hB011 := hB04.trans hB11
                        have hyk : y ∈ kvR.map (·.1) := List.mem_map.2 ⟨_, hy, rfl⟩
                        have hyN : y ∈ N := HT.out _ _ ((HSR.out.2 y).1 hyk)
                        have hl5 := look_b (hM4.ch hB11 (by simp)) y
                        rw [get_true HS.out HV.out y (c := hasS out.flatten y) (by simp only [hasS, decide_eq_true_eq])] at hl5
                        obtain ⟨Ry, hlRy, hSRy⟩ := (HND.out.ch hB011).look hyN
                        have hly := hSRy.look x
                        have hnext : (y ∈ out.flatten ∨ rb F y x = true) → ∀ z ∈ kvR.map (·.1), z ∈ left'.map (·.1) ∨ (z ∈ out.flatten ∨ rb F z x = true) := by
                          intro hc z hz
                          rcases HC5.out z hz with h1 | h1
                          · rcases List.mem_cons.1 ((hperm.map (·.1)).mem_iff.1 h1) with e | h2
                            · have e : z = y := e
                              subst e; exact .inr hc
                            · exact .inl h2
                          · exact .inr h1
                        have HNX := Lib.hid hnext; clear hnext
                        have hlt5 : left'.length < left.length := by have := hperm.length_eq; simp at this; omega
                        have hml6 := hit11.left_eq
                        simp only [encB] at hen
                        cases hh1 : hasS out.flatten y with
                        | true =>
                          rw [hh1] at hl5
                          have HH1 := Lib.hid hh1; clear hh1
                          go_wp2
                          go_roundw
                          case rel => exact ⟨left', hit11, hB11, HNX.out (.inl (by have := HH1.out; simpa [hasS] using this))⟩
                          case measure => rw [hml5, hml6]; exact hlt5
                        | false =>
                          rw [hh1] at hl5
                          cases hh2 : rb F y x with
                          | true =>
                            rw [hh2] at hly
                            have HH2 := Lib.hid hh2; clear hh2
                            have HH1 := Lib.hid hh1; clear hh1
                            go_wp2
                            go_roundw
                            case rel => exact ⟨left', hit11, hB11, HNX.out (.inr HH2.out)⟩
                            case measure => rw [hml5, hml6]; exact hlt5
                          | false =>
                            rw [hh2] at hly
                            have hbad : readyB F out.flatten x = false := by
                              cases hr : readyB F out.flatten x with
                              | false => rfl
                              | true =>
                                rcases ((readyB_iff _ _ _).1 hr).2 y ((HSR.out.2 y).1 hyk) with h1 | h1
                                · simp [hasS] at hh1; exact absurd h1 (by simpa using hh1)
                                · rw [(rb_iff _ _ _).2 h1] at hh2; cases hh2
                            have HBAD := Lib.hid (HST.out hbad); clear hbad
                            have HH2 := Lib.hid hh2; clear hh2
                            have HH1 := Lib.hid hh1; clear hh1
                            go_wp2
                            go_roundw
                            case rel => exact ⟨j + 1, rfl, by omega, by go_num, hB4.trans hB11, HBAD.out⟩
                            case measure => simp [intOf]; omega
                · exfalso
                  obtain ⟨n, hn, hr⟩ := HEX.out
                  obtain ⟨i, hi, rfl⟩ := List.mem_iff_getElem.1 hn
                  rw [HN4.out i hi (by omega)] at hr
                  cases hr
            · have HD := Lib.hid (HG.out.done HT.out HNN.out (by rw [← HKL.out]; exact hfin) k)
              have hkv : kv.length ≤ 1000000 := by
                have := HG.out.nd.length_le_of_subset HG.out.sub
                rw [HKL.out]; omega
              go_wp2_with (first | (at_len; refine wpl_len rfl _ _ rfl mS rfl hM ?_))
              go_ret
              have hs := hBwr.size
              exact ⟨_, rfl, by rw [HR.out, ← HX.out, HD.out]; exact SlSS.weak hO.slss (fun b _ hb => by omega), hBwr.trans hB⟩
end Go.Proofs.Ytbjdikeaolibpaa
