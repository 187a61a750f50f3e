
/-
  The contract of check.differing.
-/
import Derived.Test.YtgljjapglgcpdaaGreatDoorChSafe
import Derived.Test.YtgljjapglgcpdaaGreatDoorChPlain
import Derived.Test.YtgljjapglgcpdaaGreatDoorStrDist
namespace Go.Proofs.YtgljjapglgcpdaaGreatDoor
open Go.RowKit

/-- the map holds the number of arguments of each relation met -/
def ArgKv (kv : List (ByteArray × Value)) (L : List Tm) : Prop := ∀ s, match aget kv s with
  | none => ∀ t ∈ L, t.name ≠ s
  | some v => ∃ t ∈ L, t.name = s ∧ v = .int .i64 (t.args.length : Int)
theorem ArgKv.nil : ArgKv [] [] := fun s => by
  have : aget ([] : List (ByteArray × Value)) s = none := rfl
  rw [this]; simp
theorem ArgKv.none_ {kv : List (ByteArray × Value)} {L : List Tm} (h : ArgKv kv L) {a : Tm} (hn : aget kv a.name = none) : confl L a = false := by
  have := h a.name
  rw [hn] at this
  rw [confl_false]
  intro t ht e
  exact absurd e (this t ht)
theorem ArgKv.some_ {kv : List (ByteArray × Value)} {L : List Tm} (h : ArgKv kv L) (hA : Agree L) {a : Tm} {v : Value} (hn : aget kv a.name = some v) : ∃ n : Nat, v = .int .i64 (n : Int) ∧ confl L a = !decide (n = a.args.length) := by
  have := h a.name
  rw [hn] at this
  obtain ⟨t, ht, e, rfl⟩ := this
  refine ⟨t.args.length, rfl, ?_⟩
  by_cases hq : t.args.length = a.args.length
  · rw [decide_eq_true hq, Bool.not_true, confl_false]
    intro u hu eu
    rw [hA u hu t ht (eu.trans e.symm), hq]
  · rw [decide_eq_false hq, Bool.not_false]
    simp only [confl, List.any_eq_true, Bool.and_eq_true, decide_eq_true_eq, Bool.not_eq_true', decide_eq_false_iff_not]
    exact ⟨t, ht, e, hq⟩
theorem ArgKv.add {kv : List (ByteArray × Value)} {L : List Tm} (h : ArgKv kv L) (a : Tm) : ArgKv (aset kv a.name (.int .i64 (a.args.length : Int))) (L ++ [a]) := by
  intro s
  rw [aget_aset]
  by_cases hs : s = a.name
  · rw [if_pos hs]
    exact ⟨a, by simp, hs.symm, rfl⟩
  · rw [if_neg hs]
    have := h s
    cases hg : aget kv s with
    | none =>
      rw [hg] at this
      intro t ht e
      rcases List.mem_append.1 ht with h1 | h1
      · exact this t h1 e
      · rw [List.mem_singleton] at h1; subst h1; exact hs e.symm
    | some v =>
      rw [hg] at this
      obtain ⟨t, ht, e, h1⟩ := this
      exact ⟨t, List.mem_append.2 (.inl ht), e, h1⟩
theorem Agree.add {L : List Tm} {a : Tm} (h : Agree L) (hc : confl L a = false) : Agree (L ++ [a]) := by
  have := (ruleConf_false [a] L h).1 (by simp [ruleConf, hc])
  exact this
theorem ruleConf_at (P L1 : List Tm) (j : Nat) (h : j < L1.length) : ruleConf (P ++ L1.take j) (L1.drop j) = (confl (P ++ L1.take j) L1[j] || ruleConf (P ++ L1.take (j + 1)) (L1.drop (j + 1))) := by
  rw [List.drop_eq_getElem_cons h, ruleConf, take_snoc L1 j h, List.append_assoc]
theorem diffGo_at (P : List Tm) (l : List Ru) (k : Nat) (h : k < l.length) : diffGo P k (l.drop k) = if ruleConf P (atomsOf l[k]) = true then (k : Int) else diffGo (P ++ atomsOf l[k]) (k + 1) (l.drop (k + 1)) := by
  rw [List.drop_eq_getElem_cons h, diffGo]

set_option maxRecDepth 100000 in
set_option maxHeartbeats 8000000 in
theorem differing_ (p) (v : Value) (l : List Ru) (w : World) (B b : Nat) (h : SlR p w v l) (hO : ∀ r ∈ l, RuOk B b r) :
    Calls Tryz.prog 23 #[v] w fun e w' => e = .returned (.int .i64 (diffOf l)) ∧ Ch [] w w' := by
  obtain ⟨a, c, rfl, hlc, hm⟩ := h.form
  unfold maxLen at hm
  have HO := Lib.hid hO; clear hO
  have hmm := @run_makeMap Tryz.prog
  have h0 : SlR (fun x => p x ∧ x < w.heap.size) w (.slice a l.length c) l := h.weak fun x hx hp => ⟨hp, hx⟩
  clear h
  have HD0 : Hid (diffOf l = diffGo [] 0 l) := rfl
  generalize diffOf l = D at *
  obtain ⟨M, hM⟩ : ∃ M, M = w.heap.size := ⟨_, rfl⟩
  rw [← hM] at h0
  go_enter Tryz.func23, Tryz.ntmps23
  go_wp2
  go_loopw [13] (fun i wr => ∃ (k : Nat) (kv : List (ByteArray × Value)), k ≤ l.length ∧ i = .int .i64 k ∧ Ch [] w wr ∧ MapAt wr encB w.heap.size kv ∧ Hid (∃ P, ArgKv kv P ∧ Agree P ∧ D = diffGo P k (l.drop k))) (fun i _ => l.length - (intOf i).toNat)
  case atStart => exact ⟨0, [], Nat.zero_le _, rfl, (Ch.refl _ _).alloc _, MapAt.new _ _, [], ArgKv.nil, (fun t ht => by cases ht), by rw [HD0.out]; rfl⟩
  case round =>
    obtain ⟨k, kv, hk, rfl, hB, hMp, HP⟩ := hrel
    by_cases hlt : k < l.length
    · obtain ⟨bb, o, a', c', a'', c'', rfl, hp, c0, c1, c2, hT, hL⟩ := (h0.ch0 hB).at_ hlt
      have HDG := Lib.hid (fun P => diffGo_at P l k hlt)
      have hOk := HO.out _ (List.getElem_mem hlt)
      have hbl := hOk.len
      generalize l[k] = r at *
      have hcall := fun wz (hz : Ch [] wr wz) => atoms_ r _ _ _ wz (hT.ch0 hz) (hL.ch0 hz) (by omega)
      clear hT hL hOk
      generalize r.head.name = nm at *
      generalize r.head.args.length = hl at *
      generalize r.body.length = bl at *
      have hbx := Blk.new wr 31 #[.string nm, .slice a' hl c', .slice a'' bl c'']
      have hcA : Ch [] wr (wr.alloc (.cells #[.string nm, .slice a' hl c', .slice a'' bl c''] 31)) := (Ch.refl _ _).alloc _
      have b0 := hbx.cell 0
      have b1 := hbx.cell 1
      have b2 := hbx.cell 2
      have hszB := hB.size
      have hMw := hMp.lt
      go_wp2_with (go_at_call 18; refine (hcall _ hcA).mono ?_; rintro e w1 ⟨v1, rfl, hRT, hc1⟩; clear hcall; obtain ⟨css, ho, htm⟩ := hRT; have hS : SlT (fun b => b ≠ w.heap.size) w1 v1 (atomsOf r) := ⟨css, ho.sl.weak (fun x _ hx => by have := hx.1; simp at this; omega), htm.imp hc1.size (fun x hb hp => ⟨by have := hp.2; omega, hc1.block x hb (by simp)⟩)⟩; obtain ⟨a1, c1', rfl, hlc1, hm1⟩ := hS.form; clear ho htm)
      unfold maxLen at hm1
      have hC1 := hcA.trans hc1
      have hM1 := hMp.ch hC1 (by simp)
      clear b0 b1 b2 hbx c0 c1 c2 hp
      generalize atomsOf r = L1 at *
      go_loopw [21] (fun i wq => ∃ (j : Nat) (kv : List (ByteArray × Value)), j ≤ L1.length ∧ i = .int .i64 j ∧ Ch [w.heap.size] w1 wq ∧ MapAt wq encB w.heap.size kv ∧ Hid (∃ P, ArgKv kv (P ++ L1.take j) ∧ Agree (P ++ L1.take j) ∧ D = diffGo P k (l.drop k) ∧ ruleConf P L1 = ruleConf (P ++ L1.take j) (L1.drop j))) (fun i _ => L1.length - (intOf i).toNat)
      case atStart =>
        refine ⟨0, kv, Nat.zero_le _, rfl, Ch.refl _ _, hM1, ?_⟩
        obtain ⟨P, h1, h2, h3⟩ := HP.out
        exact ⟨P, by simpa using h1, by simpa using h2, h3, by simp⟩
      case round =>
        obtain ⟨j, kv2, hj, rfl, hB2, hM2, HP2⟩ := hrel
        by_cases hjt : j < L1.length
        · obtain ⟨b6, o6, a6, c6, rfl, hp6, d0, d1, _⟩ := (hS.ch hB2 (fun x _ hx => by simpa using hx)).at_ hjt
          have HRC := Lib.hid (fun P => ruleConf_at P L1 j hjt)
          have HTS := Lib.hid (take_snoc L1 j hjt)
          generalize L1[j] = x at *
          have HAD := Lib.hid (fun (P : List Tm) (hP : ArgKv kv2 P) => hP.add x)
          have HNO := Lib.hid (fun (P : List Tm) (hP : ArgKv kv2 P) => hP.none_ (a := x))
          have HSO := Lib.hid (fun (P : List Tm) (hP : ArgKv kv2 P) (hA : Agree P) (v : Value) => hP.some_ hA (a := x) (v := v))
          obtain ⟨wN, hwN⟩ : ∃ wN, wr.alloc (.cells #[.string x.name, .slice a6 x.args.length c6] 28) = wN := ⟨_, rfl⟩
          have hbn : Blk wN wr.heap.size 28 #[.string x.name, .slice a6 x.args.length c6] := by rw [← hwN]; exact Blk.new _ _ _
          have hcN : Ch [] wr wN := by rw [← hwN]; exact (Ch.refl _ _).alloc _
          have hMN := hM2.ch hcN (by simp)
          have n0 := hbn.cell 0
          have n1 := hbn.cell 1
          have lk := look_i2 hMN x.name
          obtain ⟨w4, hrun4, hm4, hc4, hs4⟩ := upd_i hMN x.name (.int .i64 (x.args.length : Int))
          have HXS : Hid (∀ cf : Bool, (∀ P, ArgKv kv2 P → Agree P → confl P x = cf) → (cf = true → D = k) ∧ (cf = false → ∃ P, ArgKv (aset kv2 x.name (.int .i64 (x.args.length : Int))) (P ++ L1.take (j + 1)) ∧ Agree (P ++ L1.take (j + 1)) ∧ D = diffGo P k (l.drop k) ∧ ruleConf P L1 = ruleConf (P ++ L1.take (j + 1)) (L1.drop (j + 1)))) := by
            intro cf hcf
            obtain ⟨P, h1, h2, h3, h4⟩ := HP2.out
            have h5 := hcf _ h1 h2
            have h6 := HRC.out P
            rw [h5] at h6
            refine ⟨fun h7 => ?_, fun h7 => ⟨P, ?_, ?_, h3, ?_⟩⟩
            · rw [h3, HDG.out P, h4, h6, h7, if_pos (by simp)]
            · rw [HTS.out, ← List.append_assoc]; exact HAD.out _ h1
            · rw [HTS.out, ← List.append_assoc]; exact h2.add (by rw [h5, h7])
            · rw [h4, h6, h7, Bool.false_or]
          have hsz2 := hB2.size
          have HP2' := Lib.hid HP2.out
          clear HP2 HRC HTS HAD
          cases hg : aget kv2 x.name with
          | none =>
            rw [hg] at lk
            simp only [Option.getD_none, Option.isSome_none] at lk
            have HX := Lib.hid ((HXS.out false (fun P h1 h2 => HNO.out P h1 hg)).2 rfl)
            clear hg HXS HSO HNO HP2'
            go_wp2
            go_roundw
            case rel => exact ⟨j + 1, _, by omega, by go_num, (hB2.trans hcN.of_nil).step hc4 (by simp), hm4, HX⟩
            case measure => simp [intOf]; omega
          | some vv =>
            have hn : ∃ n : Nat, vv = .int .i64 (n : Int) ∧ ∀ P, ArgKv kv2 P → Agree P → confl P x = !decide (n = x.args.length) := by
              obtain ⟨P, h1, h2, h3, h4⟩ := HP2'.out
              obtain ⟨n, e, _⟩ := HSO.out _ h1 h2 _ hg
              refine ⟨n, e, fun P' h1' h2' => ?_⟩
              obtain ⟨n', e', h⟩ := HSO.out P' h1' h2' _ hg
              rw [e] at e'
              injection e' with _ e'
              have : n = n' := by omega
              subst this; exact h
            obtain ⟨n, rfl, hcf⟩ := hn
            rw [hg] at lk
            simp only [Option.getD_some, Option.isSome_some] at lk
            by_cases hq : n = x.args.length
            · have e6 : ((n : Int) != (x.args.length : Int)) = false := by rw [hq]; simp
              have HX := Lib.hid ((HXS.out false (fun P h1 h2 => by rw [hcf P h1 h2, decide_eq_true hq]; rfl)).2 rfl)
              clear hg HXS HSO HNO HP2' hcf hq
              go_wp2
              go_roundw
              case rel => exact ⟨j + 1, _, by omega, by go_num, (hB2.trans hcN.of_nil).step hc4 (by simp), hm4, HX⟩
              case measure => simp [intOf]; omega
            · have e6 : ((n : Int) != (x.args.length : Int)) = true := by simp; omega
              have HX := Lib.hid ((HXS.out true (fun P h1 h2 => by rw [hcf P h1 h2, decide_eq_false hq]; rfl)).1 rfl)
              clear hg HXS HSO HNO HP2' hcf hq
              go_wp2
              go_ret
              exact ⟨by rw [HX.out]; rfl, (hB.trans hC1).step (hB2.trans hcN.of_nil) (by simp)⟩
        · have hX : ∃ P, ArgKv kv2 P ∧ Agree P ∧ D = diffGo P (k + 1) (l.drop (k + 1)) := by
            obtain ⟨P, h1, h2, h3, h4⟩ := HP2.out
            rw [List.take_of_length_le (by omega)] at h1 h2 h4
            rw [List.drop_of_length_le (by omega)] at h4
            refine ⟨_, h1, h2, ?_⟩
            rw [h3, HDG.out P, h4, if_neg (by simp [ruleConf])]
          have HX := Lib.hid hX; clear hX
          go_wp2
          go_roundw
          case rel => exact ⟨k + 1, kv2, by omega, by go_num, (hB.trans hC1).step hB2 (by simp), hM2, HX⟩
          case measure => simp [intOf]; omega
    · have HX : Hid (D = -1) := by
        obtain ⟨P, h1, h2, h3⟩ := HP.out
        unfold Hid
        rw [h3, List.drop_of_length_le (by omega)]; rfl
      go_wp2
      go_ret
      exact ⟨by rw [HX.out]; rfl, hB⟩
end Go.Proofs.YtgljjapglgcpdaaGreatDoor
