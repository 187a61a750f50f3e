/-
  law09.DependTransitive: for every list of edges and every name the law returns true and leaves its arguments as they were. No condition.
-/
import Derived.Test.YtbjdikeaolibpaaAwake
import Derived.Test.YtbjdikeaolibpaaReach
import Derived.Test.YtbjdikeaolibpaaRefs
import Derived.Test.YtbjdikeaolibpaaOpen
namespace Go.Proofs.Ytbjdikeaolibpaa
open Go.ChangeShapes Go.WideShapes Go.ChangeAt Go.RowKit Go.ChangeMaps

/-- what the law gathers from one edge -/
noncomputable def trStep (es : List Ed) (s : ByteArray) (o : List ByteArray) (e : Ed) : List ByteArray := if e.f = s then (reachOf es e.t).foldl insS (insS o e.t) else o
noncomputable def trOf (es : List Ed) (s : ByteArray) (l : List Ed) : List ByteArray := l.foldl (trStep es s) []
theorem trOf_snoc (es : List Ed) (s : ByteArray) (k : Nat) (h : k < es.length) : trOf es s (es.take (k + 1)) = trStep es s (trOf es s (es.take k)) es[k] := by
  simp only [trOf, take_snoc es k h, List.foldl_append, List.foldl_cons, List.foldl_nil]
theorem mem_trStep (es : List Ed) (s : ByteArray) (o : List ByteArray) (e : Ed) (x : ByteArray) : x ∈ trStep es s o e ↔ x ∈ o ∨ (e.f = s ∧ (x = e.t ∨ Rch es e.t x)) := by
  unfold trStep
  split
  · rename_i h
    rw [insAll_mem', mem_insS, mem_reachOf]
    constructor
    · rintro ((h1 | h1) | h1)
      · exact .inr ⟨h, .inl h1⟩
      · exact .inl h1
      · exact .inr ⟨h, .inr h1⟩
    · rintro (h1 | ⟨_, h1 | h1⟩)
      · exact .inl (.inr h1)
      · exact .inl (.inl h1)
      · exact .inr h1
  · rename_i h
    constructor
    · exact .inl
    · rintro (h1 | ⟨h1, _⟩)
      · exact h1
      · exact absurd h1 h
theorem mem_tr (es : List Ed) (s : ByteArray) (x : ByteArray) : ∀ (l : List Ed) (o : List ByteArray), x ∈ l.foldl (trStep es s) o ↔ x ∈ o ∨ ∃ e ∈ l, e.f = s ∧ (x = e.t ∨ Rch es e.t x)
  | [], o => by simp
  | e :: l, o => by
    rw [List.foldl_cons, mem_tr es s x l, mem_trStep]
    constructor
    · rintro ((h | h) | ⟨e', h1, h2⟩)
      · exact .inl h
      · exact .inr ⟨e, by simp, h⟩
      · exact .inr ⟨e', by simp [h1], h2⟩
    · rintro (h | ⟨e', h1, h2⟩)
      · exact .inl (.inl h)
      · rcases List.mem_cons.1 h1 with rfl | h1
        · exact .inl (.inr h2)
        · exact .inr ⟨e', h1, h2⟩
theorem asc_trStep (es : List Ed) (s : ByteArray) (o : List ByteArray) (e : Ed) (h : Asc sLt o) : Asc sLt (trStep es s o e) := by
  unfold trStep
  split
  · exact insAll_asc' _ _ (asc_insS _ _ h)
  · exact h
theorem asc_tr (es : List Ed) (s : ByteArray) : ∀ (l : List Ed) (o : List ByteArray), Asc sLt o → Asc sLt (l.foldl (trStep es s) o)
  | [], _, h => h
  | e :: l, _, h => asc_tr es s l _ (asc_trStep es s _ e h)
theorem trOf_all (es : List Ed) (s : ByteArray) : trOf es s es = reachOf es s := by
  refine asc_ext sLt_sto (asc_tr es s es [] List.Pairwise.nil) (asc_reachOf es s) fun x => ?_
  rw [trOf, mem_tr, mem_reachOf]
  constructor
  · rintro (h | ⟨e, h1, h2, h3⟩)
    · cases h
    · have h4 : Rch es s e.t := .one h1 h2
      rcases h3 with rfl | h3
      · exact h4
      · exact h4.trans h3
  · intro h
    right
    induction h with
    | one h1 h2 => exact ⟨_, h1, h2, .inl rfl⟩
    | step _ h1 h2 ih =>
      obtain ⟨e, a1, a2, a3⟩ := ih
      refine ⟨e, a1, a2, .inr ?_⟩
      rcases a3 with rfl | a3
      · exact .one h1 h2
      · exact .step a3 h1 h2
/-- what has been gathered so far is short: only targets -/
def Tgt (es : List Ed) (o : List ByteArray) : Prop := Asc sLt o ∧ ∀ x ∈ o, ∃ e ∈ es, e.t = x
theorem Tgt.len {es : List Ed} {o : List ByteArray} (h : Tgt es o) : o.length ≤ es.length := reach_len h.1 h.2
theorem Tgt.ins {es : List Ed} {o : List ByteArray} (h : Tgt es o) {x : ByteArray} (hx : ∃ e ∈ es, e.t = x) : Tgt es (insS o x) :=
  ⟨asc_insS _ _ h.1, fun y hy => by rcases (mem_insS _ _ _).1 hy with rfl | hy; exact hx; exact h.2 y hy⟩
theorem fold_snoc (o r : List ByteArray) (k : Nat) (h : k < r.length) : (r.take (k + 1)).foldl insS o = insS ((r.take k).foldl insS o) r[k] := by
  simp only [take_snoc r k h, List.foldl_append, List.foldl_cons, List.foldl_nil]

set_option maxRecDepth 100000 in
set_option maxHeartbeats 4000000 in
theorem lawTrans_ (p) (v : Value) (es : List Ed) (s : ByteArray) (w : World) (h : SlE p w v es) (hok : EdOk es) :
    Calls Try.prog 14 #[v, .string s] w fun e w' => e = .returned (.bool true) ∧ Ch [] w w' := by
  obtain ⟨a, c, rfl, hlc, hm⟩ := h.form
  unfold maxLen at hm
  have HOK := Lib.hid hok; clear hok
  by_cases hle : es.length ≤ 60
  · have hR := fun t wz hz => depReach p (.slice a es.length c) es t wz hz (by omega) HOK.out
    have HR := Lib.hid hR; clear hR
    go_enter Try.func14, Try.ntmps14
    go_wp2_with (go_at_call 43; refine (HR.out _ _ h).mono ?_; rintro e w1 ⟨v1, rfl, h1, hc1⟩)
    go_loopw [6, 7] (fun o i wr => ∃ k : Nat, k ≤ es.length ∧ i = .int .i64 k ∧ Ch [] w wr ∧ Ch [] w1 wr ∧ SlS (fun _ => True) wr o (trOf es s (es.take k)) ∧ Tgt es (trOf es s (es.take k))) (fun _ i _ => es.length - (intOf i).toNat)
    case atStart => exact ⟨0, Nat.zero_le _, rfl, hc1, Ch.refl _ _, Sl.nil _ _ _, ⟨List.Pairwise.nil, by simp [trOf]⟩⟩
    case round =>
      obtain ⟨k, hk, rfl, hB, hB1, ho, hT⟩ := hrel
      by_cases hlt : k < es.length
      · obtain ⟨b, o, rfl, hp, c0, c1, c2⟩ := h.at_ hlt
        have c0 := cell_ch c0 hB (by simp)
        have c1 := cell_ch c1 hB (by simp)
        have HS := Lib.hid (trOf_snoc es s k hlt)
        have HIN := Lib.hid (List.getElem_mem hlt)
        have hlo := hT.len
        generalize trOf es s (es.take k) = o0 at *
        generalize es[k] = x at *
        obtain ⟨xf, hxf⟩ : ∃ xf, xf = x.f := ⟨_, rfl⟩
        obtain ⟨xt, hxt⟩ : ∃ xt, xt = x.t := ⟨_, rfl⟩
        rw [← hxf] at c0
        rw [← hxt] at c1
        have HXF := Lib.hid hxf; clear hxf
        have HXT := Lib.hid hxt; clear hxt
        have HTT := Lib.hid hT; clear hT
        by_cases hfs : xf = s
        · have hn : (xf.toList == s.toList) = true := by rw [beqS]; simpa using hfs
          have HFS := Lib.hid hfs; clear hfs
          have hT1 : Tgt es (insS o0 xt) := HTT.out.ins ⟨x, HIN.out, HXT.out.symm⟩
          have HR2 : Hid (∀ y ∈ reachOf es xt, ∃ e ∈ es, e.t = y) := fun y hy => ((mem_reachOf _ _ _).1 hy).target
          have hrl := reachOf_len es xt
          have HS1 : Hid (trOf es s (es.take (k + 1)) = (reachOf es xt).foldl insS (insS o0 xt)) := by
            unfold Hid; rw [HS.out, trStep, if_pos (by rw [← HXF.out]; exact HFS.out), HXT.out]
          have hRx := HR.out xt
          generalize reachOf es xt = RX at *
          have HRX := Lib.hid hRx; clear hRx
          go_wp2_with (first
            | (go_at_call 49; refine (ref09Insert _ _ _ _ _ ho (by omega)).mono ?_; rintro e w2 ⟨v2, rfl, h2, hc2⟩; have d1 := cell_ch c1 hc2 (by simp))
            | (go_at_call 43; refine (HRX.out _ (h.ch0 (hB.trans hc2))).mono ?_; rintro e w3 ⟨v3, rfl, h3, hc3⟩; obtain ⟨a3, c3, rfl, hl3, hm3⟩ := h3.form))
          have hT1L := hT1.len
          unfold maxLen at hm3
          have hB3 := hB.trans (hc2.trans hc3)
          have hB13 := hB1.trans (hc2.trans hc3)
          have h2' : SlS (fun _ => True) w3 v2 (insS o0 xt) := (h2.ch0 hc3).weak (fun _ _ _ => trivial)
          go_loopw [6, 9] (fun u j wq => ∃ m : Nat, m ≤ RX.length ∧ j = .int .i64 m ∧ Ch [] w3 wq ∧ SlS (fun _ => True) wq u ((RX.take m).foldl insS (insS o0 xt)) ∧ Tgt es ((RX.take m).foldl insS (insS o0 xt))) (fun _ j _ => RX.length - (intOf j).toNat)
          case atStart => exact ⟨0, Nat.zero_le _, rfl, Ch.refl _ _, h2', hT1⟩
          case round =>
            obtain ⟨m, hm', rfl, hB4, hu, hT2⟩ := hrel
            by_cases hlt2 : m < RX.length
            · obtain ⟨b3, o3, rfl, hp3, k0⟩ := h3.at_ hlt2
              have k0 := cell_ch k0 hB4 (by simp)
              have HF := Lib.hid (fold_snoc (insS o0 xt) RX m hlt2)
              have HT3 : Hid (Tgt es ((RX.take (m + 1)).foldl insS (insS o0 xt))) := by
                unfold Hid; rw [HF.out]; exact hT2.ins (HR2.out _ (List.getElem_mem hlt2))
              have hl2 := hT2.len
              generalize (RX.take m).foldl insS (insS o0 xt) = o2 at *
              go_wp2_with (go_at_call 49; refine (ref09Insert _ _ _ _ _ hu (by omega)).mono ?_; rintro e w5 ⟨v5, rfl, h5, hc5⟩)
              go_roundw
              case rel => exact ⟨m + 1, by omega, by go_num, hB4.trans hc5, by rw [HF.out]; exact h5.weak (fun _ _ _ => trivial), HT3.out⟩
              case measure => simp [intOf]; omega
            · have : m = RX.length := by omega
              subst this
              rw [List.take_length] at hu hT2
              rw [← HS1.out] at hu hT2
              go_wp2
              go_roundw
              case rel => exact ⟨k + 1, by omega, by go_num, hB3.trans hB4, hB13.trans hB4, hu, hT2⟩
              case measure => simp [intOf]; omega
        · have hn : (xf.toList == s.toList) = false := by rw [beqS]; simpa using hfs
          have HS1 : Hid (trOf es s (es.take (k + 1)) = o0) := by
            unfold Hid; rw [HS.out, trStep, if_neg (by rw [← HXF.out]; exact hfs)]
          clear hfs
          go_wp2
          go_roundw
          case rel => exact ⟨k + 1, by omega, by go_num, hB, hB1, by rw [HS1.out]; exact ho, by rw [HS1.out]; exact HTT.out⟩
          case measure => simp [intOf]; omega
      · have : k = es.length := by omega
        subst this
        rw [List.take_length, trOf_all] at ho
        go_wp2_with (first
          | (go_at_call 27; refine (stringsSame _ _ _ _ _ _ (h1.ch0 hB1) ho).mono ?_; rintro e w3 ⟨rfl, hc⟩; replace hB := hB.trans hc; clear hc)
          | (go_at_call 36; refine (law09awake _).mono ?_; rintro e w6 ⟨rfl, hc⟩; replace hB := hB.trans hc; clear hc))
        go_ret
        exact ⟨rfl, hB⟩
  · go_enter Try.func14, Try.ntmps14
    go_wp2_with (go_at_call 36; refine (law09awake _).mono ?_; rintro e w6 ⟨rfl, hc⟩)
    go_ret
    exact ⟨rfl, hc⟩

set_option maxRecDepth 100000 in
theorem trans_lifted (os : Os) (started : os.Started) (H : Type) (enc : TypeId × Value → H) :
    ReturnsInHanded {} Try.checked os 14 .any (Rows.dependTransitiveSpec.pre6 enc Try.prog Try.f14 Rows.dependTransitiveRow.domain false) (Rows.dependTransitiveSpec.post enc Try.prog Try.f14 false true false false) := by
  refine returnsInHanded_of_change (C := Try.checked) own started (by kernel_rfl) Try.func14
    (ChangeSpec.witness6 (enc := enc) (C := Try.checked) false ⟨#[], #[.slice none 0 0, .string ByteArray.empty], []⟩ 8 (by kernel_rfl) (by kernel_rfl) (by kernel_rfl) (by kernel_rfl)) ?_
  intro W base args ds gs before hval0 hW hcnd _
  have hval : ∀ (j : Nat) t v, Try.f14.params[j]? = some t → args[j]? = some v → Value.okWide Try.prog W .any base t v := hval0
  have hW' := hW
  obtain ⟨p, q, hA0, hV, rfl, hfz, hnd⟩ := hW
  have hA : DataW.TrodAll enc Try.prog W 0 (fun _ => true) true Try.f14.params.toList args.toList ds p := hA0
  rw [Try.params14] at hA hval
  obtain ⟨v0, vs0, d0, ds0, p0, q0, hargs, rfl, rfl, h0, r0⟩ := trodAll_cons hA
  obtain ⟨v1, vs1, d1, ds1, p1, q1, rfl, rfl, rfl, h1, r1⟩ := trodAll_cons r0
  obtain ⟨rfl, rfl, rfl⟩ := trodAll_nil r1
  obtain rfl : args = #[v0, v1] := by cases args; simp_all
  obtain ⟨rfl, rfl⟩ := trodVars_none hV
  have h0k := h0
  have h1k := h1
  obtain ⟨es, hes, hsz⟩ := open_E (hval 0 43 v0 rfl rfl) h0
  obtain ⟨s, rfl, rfl, rfl, hs⟩ := open_string Try.underlying9 (hval 1 9 v1 rfl rfl) h1
  clear hA0 hval0
  simp only [List.append_nil] at hW'
  refine (lawTrans_ _ v0 es s W hes (fun e he => (hsz e he).2)).mono fun e W' ⟨he, hc⟩ => ?_
  subst he
  have hb : Below W.heap.size W W' := hc.below
  refine ⟨_, rfl, post_of_below (pa := p0) (pv := []) hW' (fun _ _ _ => (trodAll_cons_mk (shut_bool Try.underlying4 _) trodAll_mk0)) (fun sp hsp => ?_) (fun _ _ => rfl) (by simp) hb (ok_one (by kernel_rfl) rfl (okWide_bool_mk Try.underlying4 _))⟩
  have hlt := fun x hx => hW'.lt (p := x) hx
  have := trodAll_cons_mk (arg_later (sp := sp) (by kernel_rfl) (of_decide_eq_true (by kernel_rfl)) h0k hb (fun x hx => hlt x (by simpa using hx)) (fun x hx => hsp x (by simpa using hx))) (trodAll_cons_mk (shut_string Try.underlying9 hs) trodAll_mk0)
  simp only [List.append_nil] at this
  exact this

theorem trans_over : Rows.dependTransitiveRow.holds Try.pinned (OpenSpec.ofChange Rows.dependTransitiveSpec) :=
  OpenClaim.holds_of_wide 14 Try.f14 rfl rfl rfl rfl rfl rfl rfl ⟨rfl, rfl, rfl, rfl, rfl⟩ rfl rfl rfl rfl rfl (by kernel_rfl) Try.func14 (by kernel_rfl)
    (of_decide_eq_true (by kernel_rfl)) (by unfold Func.isWrapper; first | (rw [if_pos (by decide +kernel)]; kernel_rfl) | (rw [if_neg (by decide +kernel)]; exact ⟨rfl, rfl⟩))
    (fun os started H enc _ => trans_lifted os started H enc)

theorem dependTransitive_holds : Rows.DependTransitiveSaid := trans_over
end Go.Proofs.Ytbjdikeaolibpaa
