/-
  The contract of ref09.Groups.
-/
import Derived.Test.YtbjdikeaolibpaaGroups
import Derived.Test.YtbjdikeaolibpaaRefs
import Derived.Test.YtbjdikeaolibpaaLex
namespace Go.Proofs.Ytbjdikeaolibpaa
open Go.RowKit

/-- the groups that are listed, their rows where Q holds -/
def OutQ (Q : Nat → Prop) (w : World) (base : Nat) (v : Value) (out : List (List ByteArray)) (us : List Value) : Prop :=
  us.length = out.length ∧ Own w base 38 1 v (us.map fun u => [u]) ∧ ∀ (i : Nat) (u : Value) (x : List ByteArray), us[i]? = some u → out[i]? = some x → SlS (fun b => base ≤ b ∧ v.ownBlock ≠ some b ∧ Q b) w u x
section
variable {Q Q' : Nat → Prop} {w w' : World} {base : Nat} {v v' gv : Value} {out : List (List ByteArray)} {us : List Value} {g : List ByteArray}
theorem OutQ.ch {S : List Nat} (h : OutQ Q w base v out us) (hc : Ch S w w') (hS : ∀ x ∈ S, x < base ∨ w.heap.size ≤ x ∨ (¬ Q x ∧ v.ownBlock ≠ some x)) : OutQ Q w' base v out us := by
  obtain ⟨h1, h2, h3⟩ := h
  refine ⟨h1, h2.ch hc (fun b hb hm => ?_), fun i u x hu hx => (h3 i u x hu hx).ch hc (fun b hb hp hm => ?_)⟩
  · have := h2.lt hb
    rcases hS b hm with h | h | h
    · omega
    · omega
    · exact h.2 hb
  · rcases hS b hm with h | h | h
    · omega
    · omega
    · exact h.1 hp.2.2
theorem OutQ.imp (h : OutQ Q w base v out us) (hQ : ∀ b, b < w.heap.size → Q b → Q' b) : OutQ Q' w base v out us :=
  ⟨h.1, h.2.1, fun i u x hu hx => (h.2.2 i u x hu hx).weak (fun b hb hp => ⟨hp.1, hp.2.1, hQ b hb hp.2.2⟩)⟩
theorem OutQ.slss (h : OutQ Q w base v out us) : SlSS (fun b => base ≤ b) w v out :=
  ⟨us, h.1, h.2.1.sl.weak (fun b _ hb => hb.1), fun i u x hu hx => (h.2.2 i u x hu hx).weak (fun b _ hb => hb.1)⟩
theorem OutQ.add (h : OutQ Q w base v out us) (hg : SlS (fun b => base ≤ b ∧ v.ownBlock ≠ some b ∧ Q b) w gv g) (hc : Ch v.ownBlock.toList w w')
    (hat : v'.ownBlock = v.ownBlock ∨ v'.ownBlock = some w.heap.size) (ho : Own w' base 38 1 v' ((us.map fun u => [u]) ++ [[gv]])) : ∃ us', OutQ Q w' base v' (out ++ [g]) us' := by
  have key : ∀ (u : Value) (x : List ByteArray), SlS (fun b => base ≤ b ∧ v.ownBlock ≠ some b ∧ Q b) w u x → SlS (fun b => base ≤ b ∧ v'.ownBlock ≠ some b ∧ Q b) w' u x := by
    intro u x hs
    refine Sl.imp hs hc.size fun b hb hp => ⟨⟨hp.1, fun e => ?_, hp.2.2⟩, hc.block b hb (fun hm => ?_)⟩
    · rcases hat with h1 | h1
      · exact hp.2.1 (h1 ▸ e)
      · rw [h1] at e; injection e with e; omega
    · cases hv : v.ownBlock with
      | none => rw [hv] at hm; cases hm
      | some g' => rw [hv] at hm; simp at hm; subst hm; exact hp.2.1 hv
  refine ⟨us ++ [gv], by simp [h.1], by simpa using ho, fun i u x hu hx => ?_⟩
  rcases Nat.lt_or_ge i us.length with hi | hi
  · rw [List.getElem?_append_left hi] at hu
    rw [List.getElem?_append_left (by rw [← h.1]; exact hi)] at hx
    exact key _ _ (h.2.2 i u x hu hx)
  · rw [List.getElem?_append_right hi] at hu
    rw [List.getElem?_append_right (by rw [← h.1]; exact hi)] at hx
    rw [h.1] at hu
    cases hd : i - out.length with
    | zero =>
      rw [hd] at hu hx
      simp at hu hx
      subst hu hx
      exact key _ _ hg
    | succ m => rw [hd] at hu; simp at hu
end
theorem Own.differ {w : World} {base base' k k' : Nat} {e e' : TypeId} {v v' : Value} {css css' : List (List Value)} (h : Own w base e k v css) (h' : Own w base' e' k' v' css') (hne : e ≠ e') {g : Nat} (hg : v.ownBlock = some g) : v'.ownBlock ≠ some g := by
  intro hg'
  rcases h.1.2 with ⟨rfl, _⟩ | ⟨g1, cap, cur, rfl, _, h2, _⟩
  · cases hg
  · rcases h'.1.2 with ⟨rfl, _⟩ | ⟨g2, cap2, cur2, rfl, _, h3, _⟩
    · cases hg'
    · simp [Value.ownBlock] at hg hg'
      subst hg hg'
      rw [h2] at h3
      injection h3 with h3
      injection h3 with _ h3
      exact hne h3
theorem insAll_snoc (xs : List ByteArray) (k : Nat) (h : k < xs.length) : insAll (xs.take (k + 1)) = insS (insAll (xs.take k)) xs[k] := by
  simp only [insAll, take_snoc xs k h, List.foldl_append, List.foldl_cons, List.foldl_nil]
theorem row_at {p : Nat → Prop} {w : World} {a : Option Addr} {n c i : Nat} {F : List Ed} {N : List ByteArray} (h : SlSS p w (.slice a n c) (N.map (reachOf F))) (hi : i < N.length) :
    ∃ b o a' n' c', a = some ⟨b, o, none⟩ ∧ w.cell? ⟨b, o + i, none⟩ = some (.slice a' n' c') ∧ SlS p w (.slice a' n' c') (reachOf F N[i]) := by
  obtain ⟨b, o, a', c', e, _, h1, h2⟩ := SlSS.at_ h (i := i) (by simpa using hi)
  refine ⟨b, o, a', _, c', e, h1, ?_⟩
  rw [List.getElem_map] at h2
  simpa using h2

/-- what the specification asks of one name more -/
noncomputable def cnd (F : List Ed) (L : List ByteArray) (n m : ByteArray) : Bool := inG F n m || (!rb F n m || hasS L m)
noncomputable def rdy (F : List Ed) (L : List ByteArray) (n : ByteArray) (xs : List ByteArray) : Bool := !hasS L n && xs.all (cnd F L n)
theorem rdy_snoc (F : List Ed) (L : List ByteArray) (n : ByteArray) (N : List ByteArray) (k : Nat) (h : k < N.length) : rdy F L n (N.take (k + 1)) = (rdy F L n (N.take k) && cnd F L n N[k]) := by
  simp only [rdy, take_snoc N k h, List.all_append, List.all_cons, List.all_nil, Bool.and_true, Bool.and_assoc]
theorem rdy_mono (F : List Ed) (L : List ByteArray) (n : ByteArray) (N : List ByteArray) (k : Nat) (h : rdy F L n (N.take k) = false) : rdy F L n N = false := by
  cases hr : rdy F L n N with
  | false => rfl
  | true =>
    simp only [rdy, Bool.and_eq_true, List.all_eq_true] at hr
    have : rdy F L n (N.take k) = true := by
      simp only [rdy, Bool.and_eq_true, List.all_eq_true]
      exact ⟨hr.1, fun x hx => hr.2 x (List.mem_of_mem_take hx)⟩
    rw [this] at h; cases h
theorem rdy_all {F : List Ed} {N : List ByteArray} (hT : ∀ n m, Rch F n m → m ∈ N) (L : List ByteArray) (n : ByteArray) : rdy F L n N = readyB F L n := by
  rw [Bool.eq_iff_iff, readyB_iff]
  simp only [rdy, Bool.and_eq_true, List.all_eq_true, Bool.not_eq_true', hasS, decide_eq_false_iff_not, cnd, Bool.or_eq_true, inG_iff, decide_eq_true_eq]
  constructor
  · rintro ⟨h1, h2⟩
    refine ⟨h1, fun m hm => ?_⟩
    rcases h2 m (hT _ _ hm) with (rfl | h3) | h3 | h3
    · exact .inr hm
    · exact .inr h3.2
    · rw [(rb_iff F n m).2 hm] at h3; cases h3
    · exact .inl h3
  · rintro ⟨h1, h2⟩
    refine ⟨h1, fun m _ => ?_⟩
    cases hr : rb F n m with
    | false => exact .inr (.inl rfl)
    | true =>
      have hm := (rb_iff F n m).1 hr
      rcases h2 m hm with h3 | h3
      · exact .inr (.inr h3)
      · exact .inl (.inr ⟨hm, h3⟩)

set_option maxRecDepth 100000 in
set_option maxHeartbeats 4000000 in
theorem ref09Groups (p q) (v vn : Value) (es : List Ed) (names : List ByteArray) (w : World) (h : SlE p w v es) (hn : SlS q w vn names) (hf : es.length ≤ 10000) (hfn : names.length ≤ 10000) :
    Calls Try.prog 48 #[v, vn] w fun r w' => ∃ v', r = .returned v' ∧ SlSS (fun b => w.heap.size ≤ b) w' v' (groupsOf es names) ∧ Ch [] w w' := by
  obtain ⟨a, c, rfl, hlc, hm⟩ := h.form
  obtain ⟨an, cn, rfl, hlcn, hmn⟩ := hn.form
  unfold maxLen at hm hmn
  go_enter Try.func48, Try.ntmps48
  go_wp2
  go_loopw [5, 6] (fun o i wr => ∃ k : Nat, k ≤ names.length ∧ i = .int .i64 k ∧ Ch [] w wr ∧ SlS (fun b => w.heap.size ≤ b) wr o (insAll (names.take k))) (fun _ i _ => names.length - (intOf i).toNat)
  case atStart => exact ⟨0, Nat.zero_le _, rfl, Ch.refl _ _, Sl.nil _ _ _⟩
  case round =>
    obtain ⟨k, hk, rfl, hB, ho⟩ := hrel
    by_cases hlt : k < names.length
    · obtain ⟨b, o, rfl, hp, c0⟩ := hn.at_ hlt
      have c0 := cell_ch c0 hB (by simp)
      have HS := Lib.hid (insAll_snoc names k hlt)
      have hl := insAll_le (names.take k)
      rw [List.length_take] at hl
      generalize insAll (names.take k) = o0 at *
      generalize names[k] = x at *
      have hsz := hB.size
      go_wp2_with (go_at_call 49; refine (ref09Insert _ _ _ _ _ ho (by omega)).mono ?_; rintro e w1 ⟨v1, rfl, hv1, hB1⟩)
      go_roundw
      case rel => exact ⟨k + 1, by omega, by go_num, hB.trans hB1, by rw [HS.out]; exact hv1.weak (fun b _ hb => by rcases hb with h1 | h1 <;> omega)⟩
      case measure => simp [intOf]; omega
    · have : k = names.length := by omega
      subst this
      rw [List.take_length] at ho
      obtain ⟨N, hNe⟩ : ∃ N, N = insAll names := ⟨_, rfl⟩
      have hNl : N.length ≤ 10000 := by rw [hNe]; have := insAll_le names; omega
      have HA : Hid (Asc sLt N) := by rw [hNe]; exact asc_insAll names
      have HR : Hid (groupsOf es names = stepGo (insOf es N) N N.length []) := by rw [hNe]; rfl
      rw [← hNe] at ho
      clear hNe hn
      obtain ⟨a3, c3, rfl, hlc3, hm3⟩ := ho.form
      unfold maxLen at hm3
      have hB3 := hB
      clear hB
      obtain ⟨w3, rfl⟩ : ∃ w3 : World, w3 = wr := ⟨_, rfl⟩
      go_wp2
      go_loopw [7, 8] (fun ins i wr => ∃ k : Nat, k ≤ es.length ∧ i = .int .i64 k ∧ Ch [] w3 wr ∧ Own wr w3.heap.size 65 3 ins ((insOf (es.take k) N).map Ed.enc)) (fun _ i _ => es.length - (intOf i).toNat)
      case atStart => exact ⟨0, Nat.zero_le _, rfl, Ch.refl _ _, Own.nil _ _ _ _⟩
      case round =>
        obtain ⟨k, hk, rfl, hB, hw⟩ := hrel
        by_cases hlt : k < es.length
        · obtain ⟨b, o, rfl, hp, c0, c1, c2⟩ := h.at_ hlt
          have hBw := hB3.trans hB
          have c0 := cell_ch c0 hBw (by simp)
          have c1 := cell_ch c1 hBw (by simp)
          have c2 := cell_ch c2 hBw (by simp)
          have HS := Lib.hid (insOf_snoc es N k hlt)
          have hil := insOf_len (es.take k) N
          rw [List.length_take] at hil
          generalize es[k] = x at *
          generalize insOf (es.take k) N = ins0 at *
          obtain ⟨xf, hxf⟩ : ∃ xf, xf = x.f := ⟨_, rfl⟩
          obtain ⟨xt, hxt⟩ : ∃ xt, xt = x.t := ⟨_, rfl⟩
          rw [← hxf] at c0
          rw [← hxt] at c1
          have HXF := Lib.hid hxf; clear hxf
          have HXT := Lib.hid hxt; clear hxt
          have hNA := ho.ch0 hB
          have hC1 := ref09Has _ _ N xf _ hNA
          have hC2 := ref09Has _ _ N xt _ hNA
          cases h1 : hasS N xf <;> cases h2 : hasS N xt <;> rw [h1] at hC1 <;> rw [h2] at hC2
          all_goals
            have HC1 := Lib.hid hC1; clear hC1
            have HC2 := Lib.hid hC2; clear hC2
            have H1 := Lib.hid h1; clear h1
            have H2 := Lib.hid h2; clear h2
            go_wp2_with (first
              | (go_at_call 33; refine (HC1.out).mono ?_; rintro e w4 ⟨rfl, rfl⟩; clear HC1)
              | (go_at_call 33; refine (HC2.out).mono ?_; rintro e w4 ⟨rfl, rfl⟩; clear HC2)
              | (at_builtin; refine wpList_append_sl rfl _ _ _ rfl elE (base := w3.heap.size) (v := u7) (css := (ins0).map Ed.enc) rfl (hw.ch ((Ch.refl [] wr).alloc _) (by simp)) rfl (Sl.one wr 3 _ [.string xf, .string xt, .bool x.n] rfl (by simp [Value.oneCell'])) (by simp; omega) (by have := hB.size; simp; omega) ?_; intro v6 w6 ho6 hc6 hat6 hn6; clear hn6))
            go_roundw
            case rel => first
              | exact ⟨k + 1, by omega, by go_num, hB, by rw [HS.out, ← HXF.out, ← HXT.out, H1.out, H2.out]; exact hw⟩
              | exact ⟨k + 1, by omega, by go_num, (hB.alloc _).step hc6 (fun y hy => .inr (by
                  cases hu : u7.ownBlock with
                  | none => rw [hu] at hy; cases hy
                  | some g => rw [hu] at hy; simp at hy; subst hy; exact (hw.lt hu).1)), by rw [HS.out, ← HXF.out, ← HXT.out, H1.out, H2.out]; simp only [Bool.and_self, if_true, List.map_append]; simpa [Ed.enc, HXF.out, HXT.out] using ho6⟩
            case measure => simp [intOf]; omega
        · have : k = es.length := by omega
          subst this
          rw [List.take_length] at hw
          have hil := insOf_len es N
          have HTT : Hid (∀ n m, Rch (insOf es N) n m → m ∈ N) := fun n m hm => insOf_target hm
          have hN4 := ho.ch0 hB
          have hins : SlE (fun b => w3.heap.size ≤ b) wr u7 (insOf es N) := SlE.weak hw.sl (fun b _ hb => hb.1)
          generalize insOf es N = F at *
          have hB4 := hB3.trans hB
          obtain ⟨aF, cF, rfl, hlF, hmF⟩ := hins.form
          unfold maxLen at hmF
          clear hw hB ho h hB3
          obtain ⟨w4, rfl⟩ : ∃ w4 : World, w4 = wr := ⟨_, rfl⟩
          go_wp2
          go_loopw [9, 10] (fun rv i wr => ∃ (k : Nat) (us : List Value), k ≤ N.length ∧ i = .int .i64 k ∧ Ch [] w4 wr ∧ OutU wr w4.heap.size rv ((N.take k).map (reachOf F)) us) (fun _ i _ => N.length - (intOf i).toNat)
          case atStart => exact ⟨0, [], Nat.zero_le _, rfl, Ch.refl _ _, rfl, Own.nil _ _ _ _, by simp⟩
          case round =>
            obtain ⟨k, us, hk, rfl, hB, hO⟩ := hrel
            by_cases hlt : k < N.length
            · obtain ⟨b, o, rfl, hp, c0⟩ := hN4.at_ hlt
              have c0 := cell_ch c0 hB (by simp)
              have HS : Hid ((N.take (k + 1)).map (reachOf F) = (N.take k).map (reachOf F) ++ [reachOf F N[k]]) := by unfold Hid; rw [take_snoc N k hlt, List.map_append]; rfl
              have hul : us.length ≤ 10000 := by rw [hO.1]; simp; omega
              generalize N[k] = x at *
              have hlv : ∀ b, u9.ownBlock = some b → w4.heap.size ≤ b ∧ b < wr.heap.size := fun b hb => hO.2.1.lt hb
              have HLV := Lib.hid hlv; clear hlv
              have hown := hO.2.1
              have HO := Lib.hid hO; clear hO
              have hRc := ref09Reach _ _ F x _ (hins.ch0 hB) (by omega)
              generalize reachOf F x = RX at *
              go_wp2_with (first
                | (go_at_call 44; refine hRc.mono ?_; rintro e w5 ⟨v5, rfl, h5, hc5⟩; clear hRc; obtain ⟨a5, c5, rfl, hl5, hm5⟩ := h5.form)
                | (at_builtin; refine wpList_append_sl rfl _ _ _ rfl elSS (base := w4.heap.size) (v := u9) (css := us.map fun u => [u]) rfl ((hown.ch hc5 (by simp)).ch ((Ch.refl [] w5).alloc _) (by simp)) rfl (Sl.one w5 1 _ [.slice a5 RX.length c5] rfl (by simp [Value.oneCell'])) (by simp; omega) (by have := hB.size; have := hc5.size; simp; omega) ?_; intro v8 w8 ho8 hc8 hat8 hn8; clear hn8))
              have hsz := hB.size
              have hc5A := hc5.alloc (.cells #[.slice a5 RX.length c5] 38)
              obtain ⟨us', hU⟩ := OutU.add (HO.out.ch hc5A (by simp)) (SlS.weak (h5.ch0 ((Ch.refl [] w5).alloc (.cells #[.slice a5 RX.length c5] 38))) (fun b _ hb => ⟨by omega, fun e => by have := (HLV.out b e).2; omega⟩)) hc8 hat8 ho8
              have hcw : Ch [] w4 w8 := (hB.trans hc5A).step hc8 (by
                intro z hx
                cases hu : u9.ownBlock with
                | none => rw [hu] at hx; cases hx
                | some g => rw [hu] at hx; simp at hx; have := (HLV.out g hu).1; right; omega)
              go_roundw
              case rel => exact ⟨k + 1, us', by omega, by go_num, hcw, by rw [HS.out]; exact hU⟩
              case measure => simp [intOf]; omega
            · have : k = N.length := by omega
              subst this
              rw [List.take_length] at hO
              have hRS := hO.slss
              obtain ⟨a9, c9, rfl, hl9, hm9⟩ : ∃ a c, u9 = .slice a N.length c ∧ N.length ≤ c ∧ c ≤ maxLen := by
                obtain ⟨a, c, e, h1, h2⟩ := hRS.form
                rw [List.length_map] at e h1
                exact ⟨a, c, e, h1, h2⟩
              unfold maxLen at hm9
              have hN5 := hN4.ch0 hB
              have hB5 := hB4.trans hB
              clear hO hN4 hins hB hB4
              obtain ⟨w5, rfl⟩ : ∃ w5 : World, w5 = wr := ⟨_, rfl⟩
              have HT : Hid (∀ n m, Rch F n m → m ∈ N) := HTT
              have HNN : Hid N.Nodup := asc_nodup sLt_sto HA.out
              go_wp2
              go_loopw [11, 12] (fun ov lv wr => ∃ (out : List (List ByteArray)) (us : List Value) (k : Nat) (al : Option Addr) (n cl : Nat), lv = .slice al n cl ∧ Hid (n = out.flatten.length) ∧ Ch [] w5 wr ∧ OutQ (fun b => lv.ownBlock ≠ some b) wr w5.heap.size ov out us ∧ Own wr w5.heap.size 9 1 lv (out.flatten.map encS) ∧
                  Hid (GInv F N out) ∧ Hid (stepGo F N k out = stepGo F N N.length []) ∧ Hid (k + out.length = N.length)) (fun _ lv _ => N.length - lenV lv)
              case atStart => exact ⟨[], [], N.length, none, 0, 0, rfl, rfl, Ch.refl _ _, ⟨rfl, Own.nil _ _ _ _, by simp⟩, Own.nil _ _ _ _, GInv.start F N, rfl, by simp [Hid]⟩
              case round =>
                obtain ⟨out, us, k, al, n, cl, rfl, HNL, hB, hO, hL, HG, HX, HKO⟩ := hrel
                have hnN : n ≤ N.length := by have := HG.out.nd.length_le_of_subset HG.out.sub; rw [HNL.out]; omega
                by_cases hfin : n < N.length
                · have hex := HG.out.some_ready HT.out HNN.out (by rw [← HNL.out]; exact hfin)
                  have HEX := Lib.hid hex; clear hex
                  have hLs : SlS (fun _ => True) wr (.slice al n cl) out.flatten := SlS.weak hL.sl (fun _ _ _ => trivial)
                  obtain ⟨wo, rfl⟩ : ∃ wo : World, wo = wr := ⟨_, rfl⟩
                  go_wp2
                  go_loopw [11, 12, 13] (fun o' l' i wq => ∃ j : Nat, o' = u11 ∧ l' = .slice al n cl ∧ j ≤ N.length ∧ i = .int .i64 j ∧ Ch [] wo wq ∧ Hid (∀ i (hi : i < N.length), i < j → readyB F out.flatten N[i] = false)) (fun _ _ i _ => N.length - (intOf i).toNat)
                  case atStart => exact ⟨0, rfl, rfl, Nat.zero_le _, rfl, Ch.refl _ _, by intro i _ h; omega⟩
                  case round =>
                    obtain ⟨j, rfl, rfl, hj, rfl, hBq, HNR⟩ := hrel
                    by_cases hltj : j < N.length
                    · have hB5q := hB.trans hBq
                      have hNq := hN5.ch0 hB5q
                      obtain ⟨bN, oN, rfl, hpN, c4⟩ := hNq.at_ hltj
                      have hmem : N[j] ∈ N := List.getElem_mem hltj
                      have HFJ := Lib.hid (fun hq => find_at (q := readyB F out.flatten) hltj hq (fun i hi => HNR.out i (by omega) hi))
                      have hstep : readyB F out.flatten N[j] = false → ∀ i (hi : i < N.length), i < j + 1 → readyB F out.flatten N[i] = false := by
                        intro hf i hi hij
                        rcases Nat.lt_succ_iff_lt_or_eq.1 hij with h1 | h1
                        · exact HNR.out i hi h1
                        · subst h1; exact hf
                      have HST := Lib.hid hstep; clear hstep
                      have HXJ : Hid (∀ m (hm : m < N.length), N[m] = N[j] ↔ m = j) := fun m hm => ⟨fun e => (List.getElem_inj (HNN.out)).1 e, fun e => by subst e; rfl⟩
                      obtain ⟨bR, oR, aX, nX, cX, e9, hcR, hsX⟩ := row_at (hRS.ch0 hB5q) hltj
                      subst e9
                      have hRSq := hRS.ch0 hB5q
                      have hLq := hLs.ch0 hBq
                      have HMX := Lib.hid hmem; clear hmem
                      generalize N[j] = x at *
                      have hHx := ref09Has _ _ out.flatten x _ hLq
                      cases hhx : hasS out.flatten x
                      all_goals
                        rw [hhx] at hHx
                        have HHX := Lib.hid hhx; clear hhx
                        go_wp2_with (go_at_call 33; refine hHx.mono ?_; rintro e w6 ⟨rfl, rfl⟩; clear hHx)
                        obtain ⟨wf, rfl⟩ : ∃ wf : World, wf = wr := ⟨_, rfl⟩
                        go_loopw [14, 15, 16] (fun gv rv i wq => ∃ (m : Nat) (rd : Bool), m ≤ N.length ∧ i = .int .i64 m ∧ rv = .bool rd ∧ Hid (rd = rdy F out.flatten x (N.take m)) ∧ Ch [] wf wq ∧ Own wq wf.heap.size 9 1 gv (((N.take m).filter (inG F x)).map encS)) (fun _ _ i _ => N.length - (intOf i).toNat)
                        case atStart => exact ⟨0, _, Nat.zero_le _, rfl, rfl, by unfold Hid rdy; rw [HHX.out]; rfl, Ch.refl _ _, Own.nil _ _ _ _⟩
                        case round =>
                          obtain ⟨m, rd, hm6, rfl, rfl, HRD, hB6, ho6⟩ := hrel
                          have hB56 := hB5q.trans hB6
                          by_cases hltm : m < N.length
                          · cases rd with
                            | true =>
                              have hyN : N[m] ∈ N := List.getElem_mem hltm
                              have HT6 := Lib.hid (take_snoc N m hltm)
                              have hfl6 := List.length_filter_le (inG F x) (N.take m)
                              rw [List.length_take] at hfl6
                              have HRS6 := Lib.hid (rdy_snoc F out.flatten x N m hltm)
                              have HYX := HXJ.out m hltm
                              obtain ⟨bN', oN', eN, hpN', c6⟩ := (hNq.ch0 hB6).at_ hltm
                              injection eN with eN
                              injection eN with eN1 eN2
                              subst eN1 eN2
                              have c4r := cell_ch c4 hB6 (by simp)
                              have hcRr := cell_ch hcR hB6 (by simp)
                              obtain ⟨bR', oR', aY, nY, cY, eR, hcY, hsY⟩ := row_at (hRSq.ch0 hB6) hltm
                              injection eR with eR
                              injection eR with eR1 eR2
                              subst eR1 eR2
                              have hfl : ∀ b : Bool, inG F x N[m] = b → (N.take (m + 1)).filter (inG F x) = if b then (N.take m).filter (inG F x) ++ [N[m]] else (N.take m).filter (inG F x) := by
                                intro b hb
                                rw [HT6.out, List.filter_append, List.filter_cons, hb]
                                cases b <;> simp
                              have HFL := Lib.hid hfl; clear hfl
                              have hBlk6 : ∀ g, u14.ownBlock = some g → wf.heap.size ≤ g := fun g hg => (ho6.lt hg).1
                              have HBK := Lib.hid hBlk6; clear hBlk6
                              have hsXr := hsX.ch0 hB6
                              have hLr := hLq.ch0 hB6
                              generalize N[m] = y at *
                              generalize (N.take m).filter (inG F x) = g0 at *
                              have L4 := Later.cell c4r
                              have L6 := Later.cell c6
                              have LR := Later.cell hcRr
                              have LY := Later.cell hcY
                              by_cases hmj : m = j
                              · have hq : ((m : Int) == (j : Int)) = true := by simp [hmj]
                                have hin : inG F x y = true := by rw [inG_iff]; exact .inl (HYX.2 hmj)
                                have HFX := Lib.hid (HFL.out true hin)
                                have HCX : Hid (rdy F out.flatten x (N.take (m + 1)) = true) := by unfold Hid; rw [HRS6.out, ← HRD.out, cnd, hin]; rfl
                                clear hmj hin HFL
                                go_wp2
                                refine wp_region_later (by kernel_rfl) (lexB_of (by kernel_rfl)) ?_
                                repeat (go_big_quiet_step (fail))
                                refine wpQuiet_nil ?_
                                intro w7 hw7
                                have c67 := cell_ch c6 hw7 (by simp)
                                have ho7 := ho6.ch hw7 (by simp)
                                have hsz6 := hB6.size
                                have hsz7 := hw7.size
                                go_wp2_with (at_builtin; refine wpList_append_sl rfl _ _ _ rfl elS (base := wf.heap.size) (v := u14) (css := g0.map encS) rfl (ho7.ch ((Ch.refl [] w7).alloc _) (by simp)) rfl (Sl.one w7 1 _ [.string y] rfl (by simp [Value.oneCell'])) (by simp; omega) (by simp; omega) ?_; intro v8 w8 ho8 hc8 hat8 hn8; clear hn8)
                                refine wp_region_later (by kernel_rfl) (lexB_of (by kernel_rfl)) ?_
                                repeat (go_big_quiet_step (fail))
                                refine wpQuiet_nil ?_
                                intro w9 hw9
                                have hc69 : Ch [] wf w9 := (((hB6.trans hw7).alloc (.cells #[.string y] 9)).step hc8 (fun z hz => .inr (by
                                  cases hu : u14.ownBlock with
                                  | none => rw [hu] at hz; cases hz
                                  | some g => rw [hu] at hz; simp at hz; have := HBK.out g hu; omega))).trans hw9
                                have ho9 := ho8.ch hw9 (by simp)
                                go_wp2
                                go_roundw
                                case rel => exact ⟨m + 1, true, by omega, by go_num, rfl, by unfold Hid; rw [HCX.out], hc69, by rw [HFX.out, if_pos (by trivial), List.map_append]; exact ho9⟩
                                case measure => simp [intOf]; omega
                              · have hq : ((m : Int) == (j : Int)) = false := by simp; omega
                                have hyx : decide (y = x) = false := by simp; exact fun e => hmj (HYX.1 e)
                                have HYN := Lib.hid hyx; clear hyx
                                clear hmj HYX
                                have HB1 : ∀ wz, Ch [] wr wz → Calls Try.prog 33 #[.slice aX nX cX, .string y] wz fun e w' => e = .returned (.bool (rb F x y)) ∧ Ch [] wz w' := fun wz hz => (ref09Has _ _ _ y wz (hsXr.ch0 hz)).mono fun e w' h => ⟨h.1, by rw [← h.2]; exact Ch.refl _ _⟩
                                have HB2 : ∀ wz, Ch [] wr wz → Calls Try.prog 33 #[.slice aY nY cY, .string x] wz fun e w' => e = .returned (.bool (rb F y x)) ∧ Ch [] wz w' := fun wz hz => (ref09Has _ _ _ x wz (hsY.ch0 hz)).mono fun e w' h => ⟨h.1, by rw [← h.2]; exact Ch.refl _ _⟩
                                have HB3 : ∀ wz, Ch [] wr wz → Calls Try.prog 33 #[.slice al n cl, .string y] wz fun e w' => e = .returned (.bool (hasS out.flatten y)) ∧ Ch [] wz w' := fun wz hz => (ref09Has _ _ _ y wz (hLr.ch0 hz)).mono fun e w' h => ⟨h.1, by rw [← h.2]; exact Ch.refl _ _⟩
                                cases hb1 : rb F x y with
                                | false =>
                                  rw [hb1] at HB1
                                  have hin : inG F x y = false := by rw [inG, HYN.out, hb1]; rfl
                                  have HFX := Lib.hid (HFL.out false hin)
                                  have HCX : Hid (rdy F out.flatten x (N.take (m + 1)) = true) := by unfold Hid; rw [HRS6.out, ← HRD.out, cnd, hin, hb1]; rfl
                                  clear HFL hin HB2 HB3 hb1
                                  go_wp2
                                  refine wp_region_later (by kernel_rfl) (lexB_of (by kernel_rfl)) ?_
                                  repeat (go_big_quiet_step ((go_at_call_of 33 nX; exact later_call (HB1 _ (Later.ch _)))))
                                  refine wpQuiet_nil ?_
                                  intro w7 hw7
                                  have L67 := Later.cell (cell_ch c6 hw7 (by simp))
                                  have LR7 := Later.cell (cell_ch hcRr hw7 (by simp))
                                  have ho7 := ho6.ch hw7 (by simp)
                                  clear L4 L6 LR LY
                                  go_wp2
                                  refine wp_region_later (by kernel_rfl) (lexB_of (by kernel_rfl)) ?_
                                  repeat (go_big_quiet_step ((go_at_call_of 33 nX; exact later_call (HB1 _ (hw7.trans (Later.ch _))))))
                                  refine wpQuiet_nil ?_
                                  intro w9 hw9
                                  have hc69 : Ch [] wf w9 := (hB6.trans hw7).trans hw9
                                  have ho9 := ho7.ch hw9 (by simp)
                                  go_wp2
                                  go_roundw
                                  case rel => exact ⟨m + 1, true, by omega, by go_num, rfl, by unfold Hid; rw [HCX.out], hc69, by rw [HFX.out]; exact ho9⟩
                                  case measure => simp [intOf]; omega
                                | true =>
                                  rw [hb1] at HB1
                                  cases hb2 : rb F y x with
                                  | true =>
                                    rw [hb2] at HB2
                                    have hin : inG F x y = true := by rw [inG, HYN.out, hb1, hb2]; rfl
                                    have HFX := Lib.hid (HFL.out true hin)
                                    have HCX : Hid (rdy F out.flatten x (N.take (m + 1)) = true) := by unfold Hid; rw [HRS6.out, ← HRD.out, cnd, hin]; rfl
                                    clear HFL hin HB3 hb1 hb2
                                    go_wp2
                                    refine wp_region_later (by kernel_rfl) (lexB_of (by kernel_rfl)) ?_
                                    repeat (go_big_quiet_step (first | (go_at_call_of 33 nX; exact later_call (HB1 _ (Later.ch _))) | (go_at_call_of 33 nY; exact later_call (HB2 _ (Later.ch _)))))
                                    refine wpQuiet_nil ?_
                                    intro w7 hw7
                                    have c67 := cell_ch c6 hw7 (by simp)
                                    have ho7 := ho6.ch hw7 (by simp)
                                    have hsz6 := hB6.size
                                    have hsz7 := hw7.size
                                    go_wp2_with (at_builtin; refine wpList_append_sl rfl _ _ _ rfl elS (base := wf.heap.size) (v := u14) (css := g0.map encS) rfl (ho7.ch ((Ch.refl [] w7).alloc _) (by simp)) rfl (Sl.one w7 1 _ [.string y] rfl (by simp [Value.oneCell'])) (by simp; omega) (by simp; omega) ?_; intro v8 w8 ho8 hc8 hat8 hn8; clear hn8)
                                    refine wp_region_later (by kernel_rfl) (lexB_of (by kernel_rfl)) ?_
                                    repeat (go_big_quiet_step (fail))
                                    refine wpQuiet_nil ?_
                                    intro w9 hw9
                                    have hc69 : Ch [] wf w9 := (((hB6.trans hw7).alloc (.cells #[.string y] 9)).step hc8 (fun z hz => .inr (by
                                      cases hu : u14.ownBlock with
                                      | none => rw [hu] at hz; cases hz
                                      | some g => rw [hu] at hz; simp at hz; have := HBK.out g hu; omega))).trans hw9
                                    have ho9 := ho8.ch hw9 (by simp)
                                    go_wp2
                                    go_roundw
                                    case rel => exact ⟨m + 1, true, by omega, by go_num, rfl, by unfold Hid; rw [HCX.out], hc69, by rw [HFX.out, if_pos (by trivial), List.map_append]; exact ho9⟩
                                    case measure => simp [intOf]; omega
                                  | false =>
                                    rw [hb2] at HB2
                                    have hin : inG F x y = false := by rw [inG, HYN.out, hb1, hb2]; rfl
                                    have HFX := Lib.hid (HFL.out false hin)
                                    cases hb3 : hasS out.flatten y with
                                    | true =>
                                      rw [hb3] at HB3
                                      have HCX : Hid (rdy F out.flatten x (N.take (m + 1)) = true) := by unfold Hid; rw [HRS6.out, ← HRD.out, cnd, hin, hb1, hb3]; rfl
                                      clear HFL hin hb1 hb2 hb3
                                      go_wp2
                                      refine wp_region_later (by kernel_rfl) (lexB_of (by kernel_rfl)) ?_
                                      repeat (go_big_quiet_step (first | (go_at_call_of 33 nX; exact later_call (HB1 _ (Later.ch _))) | (go_at_call_of 33 nY; exact later_call (HB2 _ (Later.ch _)))))
                                      refine wpQuiet_nil ?_
                                      intro w7 hw7
                                      have L67 := Later.cell (cell_ch c6 hw7 (by simp))
                                      have LR7 := Later.cell (cell_ch hcRr hw7 (by simp))
                                      have ho7 := ho6.ch hw7 (by simp)
                                      clear L4 L6 LR LY
                                      go_wp2
                                      refine wp_region_later (by kernel_rfl) (lexB_of (by kernel_rfl)) ?_
                                      repeat (go_big_quiet_step (first | (go_at_call_of 33 nX; exact later_call (HB1 _ (hw7.trans (Later.ch _)))) | (go_at_call_of 33 cl; exact later_call (HB3 _ (hw7.trans (Later.ch _))))))
                                      refine wpQuiet_nil ?_
                                      intro w9 hw9
                                      have hc69 : Ch [] wf w9 := (hB6.trans hw7).trans hw9
                                      have ho9 := ho7.ch hw9 (by simp)
                                      go_wp2
                                      go_roundw
                                      case rel => exact ⟨m + 1, true, by omega, by go_num, rfl, by unfold Hid; rw [HCX.out], hc69, by rw [HFX.out]; exact ho9⟩
                                      case measure => simp [intOf]; omega
                                    | false =>
                                      rw [hb3] at HB3
                                      have HCX : Hid (rdy F out.flatten x (N.take (m + 1)) = false) := by unfold Hid; rw [HRS6.out, ← HRD.out, cnd, hin, hb1, hb3]; rfl
                                      clear HFL hin hb1 hb2 hb3
                                      go_wp2
                                      refine wp_region_later (by kernel_rfl) (lexB_of (by kernel_rfl)) ?_
                                      repeat (go_big_quiet_step (first | (go_at_call_of 33 nX; exact later_call (HB1 _ (Later.ch _))) | (go_at_call_of 33 nY; exact later_call (HB2 _ (Later.ch _)))))
                                      refine wpQuiet_nil ?_
                                      intro w7 hw7
                                      have L67 := Later.cell (cell_ch c6 hw7 (by simp))
                                      have LR7 := Later.cell (cell_ch hcRr hw7 (by simp))
                                      have ho7 := ho6.ch hw7 (by simp)
                                      clear L4 L6 LR LY
                                      go_wp2
                                      refine wp_region_later (by kernel_rfl) (lexB_of (by kernel_rfl)) ?_
                                      repeat (go_big_quiet_step (first | (go_at_call_of 33 nX; exact later_call (HB1 _ (hw7.trans (Later.ch _)))) | (go_at_call_of 33 cl; exact later_call (HB3 _ (hw7.trans (Later.ch _))))))
                                      refine wpQuiet_nil ?_
                                      intro w9 hw9
                                      have hc69 : Ch [] wf w9 := (hB6.trans hw7).trans hw9
                                      have ho9 := ho7.ch hw9 (by simp)
                                      go_wp2
                                      go_roundw
                                      case rel => exact ⟨m + 1, false, by omega, by go_num, rfl, by unfold Hid; rw [HCX.out], hc69, by rw [HFX.out]; exact ho9⟩
                                      case measure => simp [intOf]; omega
                            | false =>
                              have hbad : readyB F out.flatten x = false := by rw [← rdy_all HT.out]; exact rdy_mono _ _ _ _ m HRD.out.symm
                              have HBAD := Lib.hid (HST.out hbad); clear hbad
                              go_wp2
                              go_roundw
                              case rel => exact ⟨j + 1, rfl, rfl, by omega, by go_num, hBq.trans hB6, HBAD.out⟩
                              case measure => simp [intOf]; omega
                          · have hmN : m = N.length := by omega
                            subst hmN
                            rw [List.take_length] at HRD ho6
                            cases rd with
                            | false =>
                              have hbad : readyB F out.flatten x = false := by rw [← rdy_all HT.out]; exact HRD.out.symm
                              have HBAD := Lib.hid (HST.out hbad); clear hbad
                              go_wp2
                              go_roundw
                              case rel => exact ⟨j + 1, rfl, rfl, by omega, by go_num, hBq.trans hB6, HBAD.out⟩
                              case measure => simp [intOf]; omega
                            | true =>
                              have hready : readyB F out.flatten x = true := by rw [← rdy_all HT.out, HRD.out]
                              have HFIND := Lib.hid (HFJ.out hready)
                              have hgl : (N.filter (inG F x)).length ≤ N.length := List.length_filter_le _ _
                              have hxg : x ∈ N.filter (inG F x) := List.mem_filter.2 ⟨HMX.out, by rw [inG_iff]; exact .inl rfl⟩
                              have hgp := List.length_pos_of_mem hxg
                              clear hxg
                              have hkk : ∃ k', k = k' + 1 := by
                                have a1 := HG.out.len
                                have a2 := HNL.out
                                have a3 := HKO.out
                                exact ⟨k - 1, by omega⟩
                              obtain ⟨k', rfl⟩ := hkk
                              have hst2 := stepGo_at (k := k') HFIND.out
                              have hgi := HG.out.step HT.out HNN.out HMX.out hready
                              unfold grpOf at hst2 hgi
                              generalize N.filter (inG F x) = gr at *
                              have HST2 := Lib.hid hst2; clear hst2
                              have HGI := Lib.hid hgi; clear hgi
                              clear hready
                              obtain ⟨ag, cg, rfl, hlg, hmg⟩ := SlS.form (show SlS _ wr u14 gr from ho6.sl)
                              unfold maxLen at hmg
                              have hcfr : Ch [] wo wr := hBq.trans hB6
                              have hO1 := hO.2.1
                              have hul : us.length ≤ 10000 := by rw [hO.1]; have := HG.out.len; have := HNL.out; omega
                              have hOlt : ∀ b, u11.ownBlock = some b → w5.heap.size ≤ b ∧ b < wo.heap.size := fun b hb => hO1.lt hb
                              have hLlt : ∀ b, (Value.slice al n cl).ownBlock = some b → w5.heap.size ≤ b ∧ b < wo.heap.size := fun b hb => hL.lt hb
                              have HOL := Lib.hid hOlt; clear hOlt
                              have HLL := Lib.hid hLlt; clear hLlt
                              have hsq := hBq.size
                              have hs6 := hB6.size
                              have hs5 := hB.size
                              have hgS : SlS (fun b => w5.heap.size ≤ b ∧ u11.ownBlock ≠ some b ∧ (Value.slice al n cl).ownBlock ≠ some b) wr (.slice ag gr.length cg) gr := Sl.weak ho6.sl (fun b hb hp => ⟨by have := hp.1; omega, fun e => by have a1 := (HOL.out b e).2; have a3 := hp.1; omega, fun e => by have a1 := (HLL.out b e).2; have a3 := hp.1; omega⟩)
                              have hcA := hcfr.alloc (.cells #[.slice ag gr.length cg] 38)
                              have hOa := hO.ch hcA (by simp)
                              have hgA := hgS.ch0 ((Ch.refl [] wr).alloc (.cells #[.slice ag gr.length cg] 38))
                              have hown := hOa.2.1
                              have hLA := hL.ch hcA (by simp)
                              have hLn : ∀ b, (Value.slice al n cl).ownBlock = some b → u11.ownBlock ≠ some b := fun b hb => hLA.differ hown (by decide) hb
                              have HLN := Lib.hid hLn; clear hLn
                              have HOA := Lib.hid hOa; clear hOa
                              have HGA := Lib.hid hgA
                              have HNU := Lib.hid HNL.out
                              clear hgS hO ho6 hcfr
                              go_wp2_with (first
                                | (at_builtin; refine wpList_append_sl rfl _ _ _ rfl elSS (base := w5.heap.size) (v := u11) (css := us.map fun u => [u]) rfl hown rfl (Sl.one wr 1 _ [.slice ag gr.length cg] rfl (by simp [Value.oneCell'])) (by simp; omega) (by simp; omega) ?_; intro v8 w8 ho8 hc8 hat8 hn8; clear hn8; have hL8 := hLA.ch hc8 (by
                                      intro b hb hm
                                      cases hu : u11.ownBlock with
                                      | none => rw [hu] at hm; cases hm
                                      | some g => rw [hu] at hm; simp at hm; subst hm; exact HLN.out b hb hu); have hg8 := hgA.ch hc8 (by
                                      intro b _ hb hm
                                      cases hu : u11.ownBlock with
                                      | none => rw [hu] at hm; cases hm
                                      | some g => rw [hu] at hm; simp at hm; subst hm; exact hb.2.1 hu); have hs8 := hc8.size)
                                | (at_builtin; refine wpList_append_sl rfl _ _ _ rfl elS (base := w5.heap.size) (v := .slice al n cl) (css := out.flatten.map encS) rfl hL8 rfl hg8 (by have := HNU.out; simp only [List.length_map]; omega) (by simp at hs8; omega) ?_; intro v9 w9 ho9 hc9 hat9 hn9; clear hn9))
                              have hfla : (out ++ [gr]).flatten = out.flatten ++ gr := by simp
                              obtain ⟨us', hU⟩ := OutQ.add HOA.out HGA.out hc8 hat8 ho8
                              have h89 : ∀ b, (Value.slice al n cl).ownBlock = some b → v8.ownBlock ≠ some b := fun b hb => hL8.differ ho8 (by decide) hb
                              have hU2 : OutQ (fun b => (Value.slice al n cl).ownBlock ≠ some b ∧ v9.ownBlock ≠ some b) w8 w5.heap.size v8 (out ++ [gr]) us' := hU.imp (fun b hb hq => ⟨hq, fun e => by
                                rcases hat9 with h1 | h1
                                · exact hq (h1 ▸ e)
                                · rw [h1] at e; injection e with e; omega⟩)
                              have hU3 := hU2.ch hc9 (fun z hz => .inr (.inr (by
                                cases hu : (Value.slice al n cl).ownBlock with
                                | none => rw [hu] at hz; cases hz
                                | some g => rw [hu] at hz; simp at hz; subst hz; exact ⟨fun hq => by first | exact hq.1 hu | exact hq.1 rfl, h89 z hu⟩)))
                              have hU4 := hU3.imp (Q' := fun b => v9.ownBlock ≠ some b) (fun b _ hq => hq.2)
                              have hcw : Ch [] w5 w9 := ((hB.trans hcA).step hc8 (fun z hz => .inr (by
                                cases hu : u11.ownBlock with
                                | none => rw [hu] at hz; cases hz
                                | some g => rw [hu] at hz; simp at hz; subst hz; exact (HOL.out z hu).1))).step hc9 (fun z hz => .inr (by
                                cases hu : (Value.slice al n cl).ownBlock with
                                | none => rw [hu] at hz; cases hz
                                | some g => rw [hu] at hz; simp at hz; subst hz; exact (HLL.out z hu).1))
                              obtain ⟨a9', c9', rfl⟩ := ho9.form'
                              refine ⟨⟨out ++ [gr], us', k', a9', _, c9', rfl, ?_, hcw, hU4, ?_, HGI, ?_, ?_⟩, ?_⟩
                              · unfold Hid; rw [hfla, List.length_append, List.length_append, List.length_map, List.length_map]
                              · rw [hfla, List.map_append]; exact ho9
                              · unfold Hid; rw [← HST2.out, HX.out]
                              · have := HKO.out; unfold Hid; simp; omega
                              · have := HNL.out
                                show N.length - (out.flatten.map encS ++ gr.map encS).length < N.length - n
                                rw [List.length_append, List.length_map, List.length_map]; omega
                    · exfalso
                      obtain ⟨nn, hnn, hr⟩ := HEX.out
                      obtain ⟨i, hi, rfl⟩ := List.mem_iff_getElem.1 hnn
                      rw [HNR.out i hi (by omega)] at hr
                      cases hr
                · have HD := Lib.hid (HG.out.done HT.out HNN.out (by rw [← HNL.out]; exact hfin) k)
                  go_wp2
                  go_ret
                  have hs := hB5.size
                  exact ⟨_, rfl, by rw [HR.out, ← HX.out, HD.out]; exact SlSS.weak hO.slss (fun b _ hb => by omega), hB5.trans hB⟩
end Go.Proofs.Ytbjdikeaolibpaa
