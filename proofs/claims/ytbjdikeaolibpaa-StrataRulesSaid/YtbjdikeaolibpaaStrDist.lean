/-
  The contract of strata.distances.
-/
import Derived.Test.YtbjdikeaolibpaaStrPlain
import Derived.Test.YtbjdikeaolibpaaStep
import Derived.Test.YtbjdikeaolibpaaLex
namespace Go.Proofs.Ytbjdikeaolibpaa
open Go.RowKit Go.MapKept

theorem mI : Try.prog.underlying 74 = some (.map 9 3) := Try.underlying74
theorem zI (w : World) : (zeroValue 3).run Try.prog w = .ok (.int .i64 0) w := Try.zeroValue3 w
theorem look_i {w : World} {B : Nat} {kv : List (ByteArray × Value)} (h : MapAt w encB B kv) (s : ByteArray) : (Instr.lookup 74 (.map (some B)) (.string s) false).run Try.prog w = .ok ((aget kv s).getD (.int .i64 0)) w := by
  have := h.look kS mI (zI w) s false
  simpa [encB] using this
theorem look_i2 {w : World} {B : Nat} {kv : List (ByteArray × Value)} (h : MapAt w encB B kv) (s : ByteArray) : (Instr.lookup 74 (.map (some B)) (.string s) true).run Try.prog w = .ok (.tuple #[(aget kv s).getD (.int .i64 0), .bool (aget kv s).isSome]) w := by
  have := h.look kS mI (zI w) s true
  simpa [encB] using this
theorem upd_i {w : World} {B : Nat} {kv : List (ByteArray × Value)} (h : MapAt w encB B kv) (s : ByteArray) (v : Value) :
    ∃ w', (Instr.mapUpdate 74 (.map (some B)) (.string s) v).run Try.prog w = .ok () w' ∧ MapAt w' encB B (aset kv s v) ∧ Ch [B] w w' ∧ w'.heap.size = w.heap.size := h.upd kS mI s v

/-- distances up to n -/
noncomputable def near (es : List Ed) (to : ByteArray) (n : Nat) (s : ByteArray) : Option Nat := match dst es s to with
  | some d => if d ≤ n then some d else none
  | none => none
def encN : Option Nat → Option Value := Option.map fun d => .int .i64 (d : Int)
/-- who is met at distance n + 1 -/
noncomputable def mets (es : List Ed) (to : ByteArray) (n : Nat) (l : List Ed) : List ByteArray := (l.filter fun e => decide (dst es e.t to = some n ∧ near es to n e.f = none)).map (·.f)
section
variable {es : List Ed} {to s : ByteArray} {n : Nat}
theorem near_some {d : Nat} : near es to n s = some d ↔ dst es s to = some d ∧ d ≤ n := by
  unfold near
  cases dst es s to with
  | none => simp
  | some m =>
    simp only [Option.some.injEq]
    split
    · simp only [Option.some.injEq]; constructor
      · rintro rfl; exact ⟨rfl, by assumption⟩
      · rintro ⟨h, _⟩; exact h
    · simp only [reduceCtorEq, false_iff]; rintro ⟨rfl, h⟩; contradiction
theorem near_zero : near es to 0 s = if s = to then some 0 else none := by
  by_cases h : s = to
  · rw [if_pos h, near_some]; exact ⟨dst_zero.2 h, Nat.le_refl _⟩
  · rw [if_neg h]
    cases hn : near es to 0 s with
    | none => rfl
    | some d =>
      obtain ⟨h1, h2⟩ := near_some.1 hn
      have : d = 0 := by omega
      subst this
      exact absurd (dst_zero.1 h1) h
theorem mets_snoc (l : List Ed) (k : Nat) (h : k < l.length) : mets es to n (l.take (k + 1)) = if dst es l[k].t to = some n ∧ near es to n l[k].f = none then mets es to n (l.take k) ++ [l[k].f] else mets es to n (l.take k) := by
  simp only [mets, take_snoc l k h, List.filter_append, List.map_append, List.filter_cons, List.filter_nil, decide_eq_true_eq]
  split <;> simp
theorem mets_len (l : List Ed) : (mets es to n l).length ≤ l.length := by
  simp only [mets, List.length_map]; exact List.length_filter_le _ _
theorem mem_mets : s ∈ mets es to n es ↔ dst es s to = some (n + 1) := by
  simp only [mets, List.mem_map, List.mem_filter, decide_eq_true_eq]
  constructor
  · rintro ⟨e, ⟨h1, h2, h3⟩, rfl⟩
    obtain ⟨m, h4, h5⟩ := dst_step h1 h2
    have : ¬ m ≤ n := fun h => by rw [near_some.2 ⟨h4, h⟩] at h3; cases h3
    rw [h4]; congr 1; omega
  · intro h
    obtain ⟨e, h1, h2, h3⟩ := dst_pred h
    refine ⟨e, ⟨h1, h3, ?_⟩, h2⟩
    cases hn : near es to n e.f with
    | none => rfl
    | some d =>
      obtain ⟨h4, h5⟩ := near_some.1 hn
      rw [h2, h] at h4
      injection h4 with h4
      omega
theorem near_succ : near es to (n + 1) s = if s ∈ mets es to n es then some (n + 1) else near es to n s := by
  split
  · rename_i h
    exact near_some.2 ⟨mem_mets.1 h, Nat.le_refl _⟩
  · rename_i h
    unfold near
    cases hd : dst es s to with
    | none => rfl
    | some d =>
      have : d ≠ n + 1 := fun e => h (mem_mets.2 (by rw [hd, e]))
      by_cases h1 : d ≤ n
      · simp only [if_pos h1]; rw [if_pos (by omega)]
      · simp only [if_neg h1]; rw [if_neg (by omega)]
theorem near_all (h : mets es to n es = []) : near es to n s = dst es s to := by
  have hg : ∀ a, dst es a to ≠ some (n + 1) := fun a ha => by
    have := mem_mets.2 ha
    rw [h] at this; cases this
  unfold near
  cases hd : dst es s to with
  | none => rfl
  | some d => simp only; rw [if_pos (dst_gap hg d s hd)]
end
/-- a map that holds distances -/
structure DisKv (es : List Ed) (kv : List (ByteArray × Value)) (to : ByteArray) (g : ByteArray → Option Nat) : Prop where
  vals : ∀ s, aget kv s = encN (g s)
  keys : ∀ s ∈ kv.map (·.1), s = to ∨ ∃ e ∈ es, e.f = s
theorem DisKv.len {es : List Ed} {kv : List (ByteArray × Value)} {to : ByteArray} {g : ByteArray → Option Nat} (h : DisKv es kv to g) (hn : (kv.map (·.1)).Nodup) : kv.length ≤ es.length + 1 := by
  have := nodup_len hn (m := to :: es.map (·.f)) (fun s hs => by
    rcases h.keys s hs with rfl | ⟨e, he, rfl⟩
    · simp
    · exact List.mem_cons_of_mem _ (List.mem_map.2 ⟨e, he, rfl⟩))
  simpa using this
/-- how many entries a map has -/
def lenM (w : World) (b : Nat) : Nat := match w.heap[b]? with
  | some (.map es _) => es.size
  | _ => 0
theorem MapAt.lenM {w : World} {b : Nat} {kv : List (ByteArray × Value)} (h : MapAt w encB b kv) : lenM w b = kv.length := by
  obtain ⟨es, clock, hb, hk, _⟩ := h
  have := congrArg List.length hk
  simp only [Proofs.Ytbjdikeaolibpaa.lenM, hb]
  simpa using this
theorem aset_len {kv : List (ByteArray × Value)} (a : ByteArray) (v : Value) : (aset kv a v).length = if a ∈ kv.map (·.1) then kv.length else kv.length + 1 := by
  have h1 := congrArg List.length (keys_aset kv a v)
  rw [List.length_map] at h1
  rw [h1]
  split <;> simp

set_option maxRecDepth 100000 in
set_option maxHeartbeats 4000000 in
theorem strataDistances (p) (v : Value) (es : List Ed) (to : ByteArray) (w : World) (h : SlE p w v es) (hf : es.length ≤ 1000000) :
    Calls Try.prog 61 #[v, .string to] w fun r w' => ∃ B kv, r = .returned (.map (some B)) ∧ w.heap.size ≤ B ∧ MapAt w' encB B kv ∧ Hid (DisKv es kv to fun s => dst es s to) ∧ Ch [] w w' := by
  obtain ⟨a, c, rfl, hlc, hm⟩ := h.form
  unfold maxLen at hm
  have hmm := @run_makeMap Try.prog
  obtain ⟨w1, hrun1, hm1, hc1, hs1⟩ := upd_i (MapAt.new w encB) to (.int .i64 0)
  have hB1 : Ch [] w w1 := ((Ch.refl [] w).alloc _).step hc1 (by simp)
  have hk1 : DisKv es (aset [] to (.int .i64 0)) to (near es to 0) := ⟨fun s => by
    rw [aget_aset, near_zero]
    by_cases hs : s = to
    · rw [if_pos hs, if_pos hs]; rfl
    · rw [if_neg hs, if_neg hs]; rfl, fun s hs => by simp [aset] at hs; exact .inl hs⟩
  have HK1 := Lib.hid hk1; clear hk1
  have hl1 : (aset ([] : List (ByteArray × Value)) to (.int .i64 0)).length = 1 := rfl
  generalize aset ([] : List (ByteArray × Value)) to (.int .i64 0) = kv1 at *
  go_enter Try.func61, Try.ntmps61
  go_wp2
  go_loopw [6] (fun nv wr => ∃ (n : Nat) (kv : List (ByteArray × Value)), nv = .int .i64 n ∧ Ch [] w wr ∧ MapAt wr encB w.heap.size kv ∧ Hid (DisKv es kv to (near es to n)) ∧ n + 1 ≤ kv.length) (fun _ wr => es.length + 1 - lenM wr w.heap.size)
  case atStart => exact ⟨0, kv1, rfl, hB1, hm1, HK1, by omega⟩
  case round =>
    obtain ⟨n, kv, rfl, hB, hM, HK, hnk⟩ := hrel
    have HM0 := Lib.hid hM.lenM
    have hkl := HK.out.len hM.nodup
    obtain ⟨w0, rfl⟩ : ∃ w0 : World, w0 = wr := ⟨_, rfl⟩
    go_wp2
    go_loopw [7, 23] (fun o i wq => ∃ k : Nat, k ≤ es.length ∧ i = .int .i64 k ∧ Ch [] w0 wq ∧ Own wq w0.heap.size 9 1 o ((mets es to n (es.take k)).map encS)) (fun _ i _ => es.length - (intOf i).toNat)
    case atStart => exact ⟨0, Nat.zero_le _, rfl, Ch.refl _ _, Own.nil _ _ _ _⟩
    case round =>
      obtain ⟨k, hk, rfl, hB2, ho⟩ := hrel
      have hB02 := hB.trans hB2
      have hM2 := hM.ch hB2 (by simp)
      by_cases hlt : k < es.length
      · obtain ⟨bb, o, rfl, hp, c0, c1, c2⟩ := h.at_ hlt
        have c0 := cell_ch c0 hB02 (by simp)
        have c1 := cell_ch c1 hB02 (by simp)
        have c2 := cell_ch c2 hB02 (by simp)
        have HS := Lib.hid (mets_snoc (es := es) (to := to) (n := n) es k hlt)
        have hml := mets_len (es := es) (to := to) (n := n) (es.take k)
        rw [List.length_take] at hml
        obtain ⟨x, hx⟩ : ∃ x, es[k] = x := ⟨_, rfl⟩
        rw [hx] at c0 c1 c2 HS
        clear hx
        generalize mets es to n (es.take k) = m0 at *
        have b0 := (Blk.new wr 65 #[.string x.f, .string x.t, .bool x.n]).cell 0
        have b1 := (Blk.new wr 65 #[.string x.f, .string x.t, .bool x.n]).cell 1
        have hMA := hM2.alloc (.cells #[.string x.f, .string x.t, .bool x.n] 65)
        have l1 := look_i2 hMA x.f
        have l2 := look_i2 hMA x.t
        have hv1 := HK.out.vals x.f
        have hv2 := HK.out.vals x.t
        have hq1 : near es to n x.t = some n ↔ dst es x.t to = some n := by rw [near_some]; exact and_iff_left (Nat.le_refl _)
        have HQ1 := Lib.hid hq1; clear hq1
        cases hf1 : near es to n x.f with
        | some d1 =>
          rw [hf1] at hv1 HS
          simp only [hv1, encN, Option.map_some, Option.getD_some, Option.isSome_some] at l1
          have HS' : Hid (mets es to n (es.take (k + 1)) = m0) := by rw [Hid, HS.out, if_neg (by simp)]
          clear HS hv1
          cases hf2 : near es to n x.t with
          | none =>
            simp only [hv2, hf2, encN, Option.map_none, Option.getD_none, Option.isSome_none] at l2
            clear hv2 hf1 hf2
            go_wp2
            go_roundw
            case rel => exact ⟨k + 1, by omega, by go_num, hB2.alloc _, by rw [HS'.out]; exact ho.ch ((Ch.refl [] wr).alloc _) (by simp)⟩
            case measure => simp [intOf]; omega
          | some d2 =>
            simp only [hv2, hf2, encN, Option.map_some, Option.getD_some, Option.isSome_some] at l2
            clear hv2 hf1 hf2
            cases hd : decide (d2 = n) <;>
            (have HD := Lib.hid hd; clear hd
             go_wp2
             all_goals
               go_roundw
               case rel => exact ⟨k + 1, by omega, by go_num, hB2.alloc _, by rw [HS'.out]; exact ho.ch ((Ch.refl [] wr).alloc _) (by simp)⟩
               case measure => simp [intOf]; omega)
        | none =>
          rw [hf1] at hv1
          simp only [hv1, encN, Option.map_none, Option.getD_none, Option.isSome_none] at l1
          have HF1 := Lib.hid hf1; clear hf1 hv1
          cases hf2 : near es to n x.t with
          | none =>
            have HS' : Hid (mets es to n (es.take (k + 1)) = m0) := by
              rw [Hid, HS.out, if_neg]
              rintro ⟨h1, _⟩
              have := HQ1.out.2 h1
              rw [hf2] at this; cases this
            simp only [hv2, hf2, encN, Option.map_none, Option.getD_none, Option.isSome_none] at l2
            clear hv2 hf2 HS
            go_wp2
            go_roundw
            case rel => exact ⟨k + 1, by omega, by go_num, hB2.alloc _, by rw [HS'.out]; exact ho.ch ((Ch.refl [] wr).alloc _) (by simp)⟩
            case measure => simp [intOf]; omega
          | some d2 =>
            simp only [hv2, hf2, encN, Option.map_some, Option.getD_some, Option.isSome_some] at l2
            by_cases hd : d2 = n
            · have HS' : Hid (mets es to n (es.take (k + 1)) = m0 ++ [x.f]) := by
                rw [Hid, HS.out, if_pos ⟨HQ1.out.1 (by rw [hf2, hd]), HF1.out⟩]
              clear hv2 hf2 HS
              subst hd
              go_wp2_with (at_builtin; refine wpList_append_sl rfl _ _ _ rfl elS (base := w0.heap.size) (v := u7) (css := m0.map encS) rfl (ho.ch (((Ch.refl [] wr).alloc _).alloc _) (by simp)) rfl (Sl.one_at (wr.alloc (.cells #[.string x.f, .string x.t, .bool x.n] 65)) 1 _ [.string x.f] rfl (by simp [Value.oneCell']) (wr.heap.size + 1) (by simp)) (by simp; omega) (by have := hB2.size; simp; omega) ?_; intro v7 w7 ho7 hc7 hat7 hn7; clear hn7)
              go_roundw
              case rel => exact ⟨k + 1, by omega, by go_num, ((hB2.alloc _).alloc _).step hc7 (fun y hy => .inr (by
                cases hu : u7.ownBlock with
                | none => rw [hu] at hy; cases hy
                | some g => rw [hu] at hy; simp at hy; subst hy; exact (ho.lt hu).1)), by rw [HS'.out, List.map_append]; exact ho7⟩
              case measure => simp [intOf]; omega
            · have HS' : Hid (mets es to n (es.take (k + 1)) = m0) := by
                rw [Hid, HS.out, if_neg]
                rintro ⟨h1, _⟩
                have := HQ1.out.2 h1
                rw [hf2] at this; injection this with this; exact hd this
              clear hv2 hf2 HS
              have hdd : decide (d2 = n) = false := by simpa using hd
              have hdi : ((d2 : Int) == (n : Int)) = false := by simp; omega
              go_wp2
              all_goals
                go_roundw
                case rel => exact ⟨k + 1, by omega, by go_num, hB2.alloc _, by rw [HS'.out]; exact ho.ch ((Ch.refl [] wr).alloc _) (by simp)⟩
                case measure => simp [intOf]; omega
      · have : k = es.length := by omega
        subst this
        rw [List.take_length] at ho
        have hml := mets_len (es := es) (to := to) (n := n) es
        by_cases hnil : (mets es to n es).length = 0
        · have hn0 := List.eq_nil_of_length_eq_zero hnil
          have HN0 := Lib.hid hn0; clear hn0
          obtain ⟨a7, c7, rfl⟩ := ho.form'
          rw [List.length_map] at *
          go_wp2
          go_ret
          refine ⟨_, kv, rfl, Nat.le_refl _, hM2, ⟨fun s => ?_, HK.out.keys⟩, hB02⟩
          rw [HK.out.vals s, near_all HN0.out]
        · obtain ⟨a7, c7, rfl⟩ := ho.form'
          have hsl := ho.sl
          rw [List.length_map] at *
          have HMM := Lib.hid (fun s => mem_mets (es := es) (to := to) (s := s) (n := n))
          have HNS := Lib.hid (fun s => near_succ (es := es) (to := to) (s := s) (n := n))
          have hmem0 : ∀ s ∈ mets es to n es, s ∉ kv.map (·.1) := fun s hs => by
            rw [← aget_none, HK.out.vals s]
            have h1 := mem_mets.1 hs
            unfold near
            rw [h1]
            simp only
            rw [if_neg (by omega)]; rfl
          have hkey0 : ∀ s ∈ mets es to n es, ∃ e ∈ es, e.f = s := fun s hs => by
            obtain ⟨e, h1, h2, _⟩ := dst_pred (mem_mets.1 hs)
            exact ⟨e, h1, h2⟩
          have HM0' := Lib.hid hmem0; clear hmem0
          have HK0 := Lib.hid hkey0; clear hkey0
          replace hsl : SlS (fun b => w0.heap.size ≤ b ∧ (Value.slice a7 (mets es to n es).length c7).ownBlock = some b) wr (.slice a7 (mets es to n es).length c7) (mets es to n es) := hsl
          generalize mets es to n es = ms at *
          obtain ⟨wo, rfl⟩ : ∃ wo : World, wo = wr := ⟨_, rfl⟩
          go_wp2
          go_loopw [63] (fun i wq => ∃ (j : Nat) (kv' : List (ByteArray × Value)), j ≤ ms.length ∧ i = .int .i64 j ∧ Ch [w.heap.size] wo wq ∧ MapAt wq encB w.heap.size kv' ∧ Hid (DisKv es kv' to fun s => if s ∈ ms.take j then some (n + 1) else near es to n s) ∧ Hid (kv.length + (if j = 0 then 0 else 1) ≤ kv'.length)) (fun i _ => ms.length - (intOf i).toNat)
          case atStart => exact ⟨0, kv, Nat.zero_le _, rfl, Ch.refl _ _, hM2, by simpa using HK, by simp [Hid]⟩
          case round =>
            obtain ⟨j, kv', hj, rfl, hB3, hM3, HK3, HL3⟩ := hrel
            by_cases hltj : j < ms.length
            · obtain ⟨b3, o3, rfl, hp3, d0⟩ := hsl.at_ hltj
              have hwl := hM.lt
              have hne3 : b3 ≠ w.heap.size := by
                have := hp3.1.1; omega
              have d0 := cell_ch d0 hB3 (by simpa using hne3)
              have HT3 := Lib.hid (take_snoc ms j hltj)
              have hmm3 : ms[j] ∈ ms := List.getElem_mem hltj
              obtain ⟨m, hmj⟩ : ∃ m, ms[j] = m := ⟨_, rfl⟩
              rw [hmj] at d0 HT3 hmm3
              clear hmj
              have HMM3 := Lib.hid hmm3; clear hmm3
              obtain ⟨w4, hrun4, hm4, hc4, hs4⟩ := upd_i hM3 m (.int .i64 ((n : Int) + 1))
              have hwr : IntKind.i64.wrap ((n : Int) + 1) = (n : Int) + 1 := by simp [IntKind.wrap, IntKind.signed, IntKind.bits]; omega
              go_wp2
              go_roundw
              case rel =>
                refine ⟨j + 1, _, by omega, by go_num, hB3.step hc4 (by simp), hm4, ⟨fun s => ?_, fun s hs => ?_⟩, ?_⟩
                · rw [aget_aset]
                  simp only [HT3.out, List.mem_append, List.mem_singleton]
                  by_cases hs : s = m
                  · rw [if_pos hs, if_pos (.inr hs)]; simp [encN]
                  · rw [if_neg hs, HK3.out.vals s]
                    simp only [hs, or_false]
                · rw [mem_aset] at hs
                  rcases hs with rfl | hs
                  · exact .inr (HK0.out _ HMM3.out)
                  · exact HK3.out.keys s hs
                · have h1 := HL3.out
                  unfold Hid
                  rw [aset_len]
                  rw [if_neg (by omega)]
                  by_cases hj0 : j = 0
                  · subst hj0
                    have : m ∉ kv'.map (·.1) := by
                      rw [← aget_none, HK3.out.vals m]
                      simp only [List.take_zero, List.not_mem_nil, if_false]
                      have h2 := HK.out.vals m
                      rw [(aget_none kv m).2 (HM0'.out m HMM3.out)] at h2
                      exact h2.symm
                    rw [if_neg this]; simp at h1; omega
                  · rw [if_neg hj0] at h1
                    split <;> omega
              case measure => simp [intOf]; omega
            · have : j = ms.length := by omega
              subst this
              have hlk : Hid (kv.length + 1 ≤ kv'.length) := by have := HL3.out; rw [if_neg hnil] at this; exact this
              have hkl3 := HK3.out.len hM3.nodup
              have HM3 := Lib.hid hM3.lenM
              have hlk' := hlk.out
              go_wp2
              go_roundw
              case rel => exact ⟨n + 1, kv', by go_num, hB02.step hB3 (by simp), hM3, ⟨fun s => by rw [HK3.out.vals s, List.take_length, HNS.out s], HK3.out.keys⟩, by omega⟩
              case measure => rw [HM0.out, HM3.out]; omega
end Go.Proofs.Ytbjdikeaolibpaa
