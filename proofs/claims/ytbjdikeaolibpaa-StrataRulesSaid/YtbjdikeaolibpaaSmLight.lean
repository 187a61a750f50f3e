/-
  The contract of plain.Light where no atoms are given.
-/
import Derived.Test.YtbjdikeaolibpaaSmAdd
namespace Go.Proofs.Ytbjdikeaolibpaa
open Go.RowKit

theorem init_eq (s : ByteArray) : (s.toList == [105, 110, 105, 116]) = decide (s = ⟨#[105, 110, 105, 116]⟩) := by
  have h := beqS s ⟨#[105, 110, 105, 116]⟩
  have : (⟨#[105, 110, 105, 116]⟩ : ByteArray).toList = [105, 110, 105, 116] := by rw [ByteArray.toList_eq]
  rw [this] at h
  exact h
theorem next_eq (s : ByteArray) : (s.toList == [110, 101, 120, 116]) = decide (s = ⟨#[110, 101, 120, 116]⟩) := by
  have h := beqS s ⟨#[110, 101, 120, 116]⟩
  have : (⟨#[110, 101, 120, 116]⟩ : ByteArray).toList = [110, 101, 120, 116] := by rw [ByteArray.toList_eq]
  rw [this] at h
  exact h
theorem legal_eq (s : ByteArray) : (s.toList == [108, 101, 103, 97, 108]) = decide (s = ⟨#[108, 101, 103, 97, 108]⟩) := by
  have h := beqS s ⟨#[108, 101, 103, 97, 108]⟩
  have : (⟨#[108, 101, 103, 97, 108]⟩ : ByteArray).toList = [108, 101, 103, 97, 108] := by rw [ByteArray.toList_eq]
  rw [this] at h
  exact h
/-- some truth value -/
def IsB (u : Value) : Prop := ∃ q, u = .bool q
def GoodA (B : Nat) (ts : List Tm) : Prop := ∀ t ∈ ts, Nice B 19 t ∧ t.dep ≤ 4
def GoodM (B : Nat) (ts : List Tm) : Prop := ∀ t ∈ ts, Nice B 19 t ∧ t.sz ≤ 7620
theorem GoodM.add {B : Nat} {ts : List Tm} (h : GoodM B ts) {t : Tm} (ht : Nice B 19 t ∧ t.sz ≤ 7620) : GoodM B (ts ++ [t]) := fun x hx => by
  rcases List.mem_append.1 hx with h1 | h1
  · exact h x h1
  · rw [List.mem_singleton] at h1; subst h1; exact ht
theorem GoodA.add {B : Nat} {ts : List Tm} (h : GoodA B ts) {t : Tm} (ht : Nice B 19 t ∧ t.dep ≤ 4) : GoodA B (ts ++ [t]) := fun x hx => by
  rcases List.mem_append.1 hx with h1 | h1
  · exact h x h1
  · rw [List.mem_singleton] at h1; subst h1; exact ht

theorem light_start (w : World) (L : Nat → Prop) : 
    Blk ((((w.alloc (.cells #[.int .i64 1000000] 106)).alloc (.map #[] 0)).alloc (.cells #[.map (some (w.heap.size + 1))] 85)).alloc (.cells #[.slice none 0 0] 50)) w.heap.size 106 #[.int .i64 1000000] ∧
    AddAt ((((w.alloc (.cells #[.int .i64 1000000] 106)).alloc (.map #[] 0)).alloc (.cells #[.map (some (w.heap.size + 1))] 85)).alloc (.cells #[.slice none 0 0] 50)) (w.heap.size + 4) L (w.heap.size + 1 + 1) (w.heap.size + 1 + 1 + 1) (w.heap.size + 1) [] (.slice none 0 0) [] ∧
    Ch [] w ((((w.alloc (.cells #[.int .i64 1000000] 106)).alloc (.map #[] 0)).alloc (.cells #[.map (some (w.heap.size + 1))] 85)).alloc (.cells #[.slice none 0 0] 50)) ∧
    w.heap.size + 4 = ((((w.alloc (.cells #[.int .i64 1000000] 106)).alloc (.map #[] 0)).alloc (.cells #[.map (some (w.heap.size + 1))] 85)).alloc (.cells #[.slice none 0 0] 50)).heap.size := by
  refine ⟨(((Blk.new w _ _).alloc _).alloc _).alloc _, ⟨?_, ?_, ?_, by simp, OwnT3.nil _ _ _⟩, (((((Ch.refl [] w).alloc _).alloc _).alloc _).alloc _), by simp⟩
  · have := (Blk.new ((w.alloc (.cells #[.int .i64 1000000] 106)).alloc (.map #[] 0)) 85 #[.map (some (w.heap.size + 1))]).alloc (.cells #[.slice none 0 0] 50)
    simpa using this
  · have := Blk.new (((w.alloc (.cells #[.int .i64 1000000] 106)).alloc (.map #[] 0)).alloc (.cells #[.map (some (w.heap.size + 1))] 85)) 50 #[.slice none 0 0]
    simpa using this
  · have := ((MapAt.new (w.alloc (.cells #[.int .i64 1000000] 106)) encB).alloc (.cells #[.map (some (w.heap.size + 1))] 85)).alloc (.cells #[.slice none 0 0] 50)
    simpa using this

theorem more_add {Lm : Nat → Prop} {w3 wz wA w8 : World} {base2 : Nat} {mvS : List Nat} {v v8 va : Value} {more2 : List Tm} {x : Tm} {css : List (List Value)} (htms : TmsR (fun b => (Lm b ∨ base2 ≤ b) ∧ v.ownBlock ≠ some b) wz more2 css)
    (hcz : Ch mvS w3 wz) (hMS : ∀ b, v.ownBlock = some b → b ∈ mvS ∨ w3.heap.size ≤ b) (hv : SlT (fun b => (Lm b ∨ base2 ≤ b) ∧ v.ownBlock ≠ some b) wA va x.args) (h5 : Ch [] wz wA) (hc8 : Ch v.ownBlock.toList wA w8) (hat8 : v8.ownBlock = v.ownBlock ∨ v8.ownBlock = some wA.heap.size)
    (ho8 : Own w8 base2 52 2 v8 (css ++ [[.string x.name, va]])) : OwnT3 Lm w8 base2 v8 (more2 ++ [x]) ∧ Ch mvS w3 w8 ∧ ∀ b, v8.ownBlock = some b → b ∈ mvS ∨ w3.heap.size ≤ b := by
  have hs5 := h5.size
  have hsz := hcz.size
  have htW := TmsR.imp (q := fun b => (Lm b ∨ base2 ≤ b) ∧ v.ownBlock ≠ some b) h5.size (fun b hb hp => ⟨hp, h5.block b hb (by simp)⟩) htms
  refine ⟨OwnT3.add htW hv hc8 hat8 ho8, (hcz.trans h5.of_nil).step hc8 (fun z hz => ?_), fun b e => ?_⟩
  · cases hvo : v.ownBlock with
    | none => rw [hvo] at hz; cases hz
    | some g6 => rw [hvo] at hz; simp at hz; subst hz; exact hMS z hvo
  · rcases hat8 with h6 | h6
    · rw [h6] at e; exact hMS b e
    · rw [h6] at e; injection e with e; exact .inr (by omega)

set_option maxRecDepth 100000 in
set_option maxHeartbeats 8000000 in
theorem light_ (B : Nat) (hB1 : 5 ≤ B) (hB2 : B ≤ 140737488355328) (p : Nat → Prop) (v : Value) (l : List Ru) (w : World) (h : SlR p w v l) (hl : l.length ≤ 150)
    (hbody : ∀ r ∈ l, r.body.length ≤ 100 ∧ r.head.sz ≤ 20 ∧ Nice B 19 r.head ∧ ∀ x ∈ r.body, x.atom.sz ≤ 1000) :
    Calls Try.prog 54 #[v, .slice none 0 0] w fun e w' => ∃ u, e = .returned u ∧ IsB u ∧ Ch [] w w' := by
  obtain ⟨a, c, rfl, hlc, hm⟩ := h.form
  unfold maxLen at hm
  have HB := Lib.hid hbody; clear hbody
  obtain ⟨L, hL⟩ : ∃ L : Nat → Prop, L = fun b => p b ∧ b < w.heap.size := ⟨_, rfl⟩
  have HL : Hid (∀ b, L b ↔ p b ∧ b < w.heap.size) := fun b => by rw [hL]
  clear hL
  have hlL : SlR L w (.slice a l.length c) l := h.weak fun b hb hp => (HL.out b).2 ⟨hp, hb⟩
  clear h
  have hmm := @run_makeMap Try.prog
  have hmf : ∀ (fn : Fn) (first cap : Array Value) (w : World), (Instr.makeFunc fn first cap).run Try.prog w = .ok (.func fn first cap) w := fun _ _ _ _ => rfl
  go_enter Try.func54, Try.ntmps54
  go_wp2
  obtain ⟨hW0, hD0, hC0, hS0⟩ := light_start w L
  have hok : AddOk (w.heap.size + 4) L (w.heap.size + 1 + 1) (w.heap.size + 1 + 1 + 1) (w.heap.size + 1) := ⟨by omega, by omega, by omega, by omega, by omega, by omega, fun h => by have := ((HL.out _).1 h).2; omega, fun h => by have := ((HL.out _).1 h).2; omega, fun h => by have := ((HL.out _).1 h).2; omega⟩
  have hWL : ¬ L w.heap.size := fun h => by have := ((HL.out _).1 h).2; omega
  have HOK := Lib.hid hok; clear hok
  have HWL := Lib.hid hWL; clear hWL
  have hLb : ∀ b, L b → b < w.heap.size := fun b h => ((HL.out b).1 h).2
  have HLB := Lib.hid hLb; clear hLb
  have hdiff : w.heap.size ≠ w.heap.size + 1 ∧ w.heap.size ≠ w.heap.size + 1 + 1 + 1 ∧ w.heap.size < w.heap.size + 4 := by omega
  have HDF := Lib.hid hdiff; clear hdiff
  generalize ((((w.alloc (.cells #[.int .i64 1000000] 106)).alloc (.map #[] 0)).alloc (.cells #[.map (some (w.heap.size + 1))] 85)).alloc (.cells #[.slice none 0 0] 50)) = wI at *
  generalize hA : w.heap.size + 1 + 1 + 1 = A at *
  generalize hK : w.heap.size + 1 + 1 = K at *
  generalize hM : w.heap.size + 1 = M at *
  generalize hBs : w.heap.size + 4 = base at *
  have hWsz : w.heap.size ≤ w.heap.size := Nat.le_refl _
  generalize hWe : w.heap.size = W at hWsz HDF hBs HOK HLB HWL hA hK hM hS0 hW0 hD0 ⊢
  rw [← hWe] at hWsz
  go_loopw [27] (fun i wr => i = .int .i64 0 ∧ wr = wI) (fun _ _ => 0)
  case atStart => exact ⟨rfl, rfl⟩
  case round =>
    obtain ⟨rfl, rfl⟩ := hrel
    go_wp2
    go_loopw [10] (fun nv wr => ∃ (n : Int) (kv : List (ByteArray × Value)) (av : Value) (ats : List Tm) (lf : Int), nv = .int .i64 n ∧ Ch [] w wr ∧ base ≤ wr.heap.size ∧ Blk wr W 106 #[.int .i64 lf] ∧ 0 ≤ lf ∧ lf ≤ 1000000 ∧ AddAt wr base L K A M kv av ats ∧ ats.length ≤ 1000000 ∧ Hid (GoodA B ats) ∧ -1 ≤ n ∧ n ≤ 1000) (fun nv _ => (1001 - intOf nv).toNat)
    case atStart => exact ⟨-1, [], _, [], 1000000, rfl, hC0, by omega, hW0, by omega, by omega, hD0, by simp, fun t ht => (nomatch ht), by omega, by omega⟩
    case round =>
      obtain ⟨n, kv, av, ats, lf, rfl, hB, hbz, hW, hf1, hf2, hD, hal, HG, hn1, hn2⟩ := hrel
      obtain ⟨a5, c5, rfl, hl5, hm5⟩ := hD.o.slt.form
      unfold maxLen at hm5
      have a0 := hD.a.cell 0
      by_cases hgo : n < ats.length ∧ ats.length ≤ 1000
      · obtain ⟨hgo1, hgo0⟩ := hgo
        have hgo2 : (ats.length : Int) ≤ 1000 := by omega
        clear hgo0
        go_wp2
        obtain ⟨wO, rfl⟩ : ∃ wo : World, wo = wr := ⟨_, rfl⟩
        obtain ⟨css, hown, htms⟩ := hD.o
        obtain ⟨Lm, hLm⟩ : ∃ Lm : Nat → Prop, Lm = fun b => (L b ∨ base ≤ b) ∧ b < wO.heap.size ∧ (Value.slice a5 ats.length c5).ownBlock ≠ some b := ⟨_, rfl⟩
        have HLM : Hid (∀ b, Lm b ↔ (L b ∨ base ≤ b) ∧ b < wO.heap.size ∧ (Value.slice a5 ats.length c5).ownBlock ≠ some b) := fun b => by rw [hLm]
        clear hLm
        have hATS : SlT2 (fun b => base ≤ b) Lm wO (.slice a5 ats.length c5) ats := ⟨css, hown.sl.weak (fun b _ hb => hb.1), TmsR.imp (Nat.le_refl _) (fun b hb hp => ⟨(HLM.out b).2 ⟨hp.1, hb, hp.2⟩, rfl⟩) htms⟩
        have hlv0 : ∀ b, (Value.slice a5 ats.length c5).ownBlock = some b → base ≤ b ∧ b < wO.heap.size := fun b hb => hown.lt hb
        have HLV0 := Lib.hid hlv0; clear hlv0
        have hlO : SlR Lm wO (.slice a l.length c) l := (hlL.ch0 hB).weak (fun b hb h => (HLM.out b).2 ⟨.inl h, hb, fun e => by have h1 := (HLV0.out b e).1; have h2 := HLB.out b h; have h3 := HDF.out; omega⟩)
        have hLmW : ∀ b, Lm b → b ≠ W := fun b h e => by
          subst e
          rcases ((HLM.out b).1 h).1 with h1 | h1
          · exact HWL.out h1
          · have := HDF.out; omega
        have HLW := Lib.hid hLmW; clear hLmW
        have hATS2 : SlT2 (fun b => base ≤ b ∧ b < wO.heap.size) Lm wO (.slice a5 ats.length c5) ats := hATS.imp (Nat.le_refl _) (fun b hb h => ⟨⟨h, hb⟩, rfl⟩) (fun b hb h => ⟨h, rfl⟩)
        clear hown htms
        have hWO := hW.lt
        go_loopw [12, 53] (fun mv i wq => ∃ (k : Nat) (more : List Tm) (lf' : Int), k ≤ l.length ∧ i = .int .i64 k ∧ Ch [W] wO wq ∧ Blk wq W 106 #[.int .i64 lf'] ∧ 0 ≤ lf' ∧ lf' ≤ 1000000 ∧ OwnT3 Lm wq wO.heap.size mv more ∧ more.length ≤ 5001 * k ∧ Hid (GoodM B more)) (fun _ i _ => l.length - (intOf i).toNat)
        case atStart => exact ⟨0, [], lf, Nat.zero_le _, rfl, Ch.refl _ _, hW, hf1, hf2, OwnT3.nil _ _ _, by simp, fun t ht => (nomatch ht)⟩
        case round =>
          obtain ⟨k, more, lf', hk, rfl, hcq, hWq, hg1, hg2, hMo, hml, HGM⟩ := hrel
          obtain ⟨wq, rfl⟩ : ∃ wq : World, wq = wr := ⟨_, rfl⟩
          have hszq := hcq.size
          by_cases hlt : k < l.length
          · obtain ⟨b, o, a3, c3, a4, c4, rfl, hpb, k0, k1, k2, hT, hLi⟩ := (hlO.ch hcq (fun b _ hb => by simpa using HLW.out b hb)).at_ hlt
            obtain ⟨hb1, hb2, hb3, hb4⟩ := HB.out _ (List.getElem_mem hlt)
            have HB3 := Lib.hid hb3; clear hb3
            have HB4 := Lib.hid hb4; clear hb4
            generalize l[k] = r at *
            obtain ⟨hd, body⟩ := r
            simp only at k0 k1 k2 hT hLi hb1 hb2 HB3 HB4
            have hcall := ways_ B Lm (fun b => base ≤ b) W (.slice a4 body.length c4) (.slice a5 ats.length c5) body ats wq lf' hWq HLW.out (fun b h e => by have := HDF.out; omega) hLi (hATS.ch hcq (fun b _ h => by have := HDF.out; simp; omega) (fun b _ h => by simpa using HLW.out b h)) hb1 hal HG.out HB4.out hg1 hg2
            have hcall2 := hcall.mono (R' := fun e w3 => (∃ vo, e = .returned (.tuple #[vo, .bool false]) ∧ Ch [W] wq w3) ∨ (∃ ao outs co left', e = .returned (.tuple #[.slice ao outs.length co, .bool true]) ∧ SlW (fun b => Lm b ∨ wq.heap.size ≤ b) w3 (.slice ao outs.length co) outs ∧ outs.length ≤ 5001 ∧ Hid (GoodW B 100000 outs) ∧ Blk w3 W 106 #[.int .i64 left'] ∧ 0 ≤ left' ∧ left' ≤ 1000000 ∧ Ch [W] wq w3)) (fun e w3 ⟨vo, okw, left', he, hout, hW3, hl3, hl4, hc3⟩ => by
              cases okw with
              | false => exact .inl ⟨vo, he, hc3⟩
              | true =>
                obtain ⟨outs, x2, x3, x4⟩ := hout rfl
                obtain ⟨y1, y2, y3, _⟩ := x2.form
                subst y3
                exact .inr ⟨y1, outs, y2, left', he, x2, x3, x4, hW3, hl3 rfl, by omega, hc3⟩)
            clear hcall
            go_wp2_with (go_at_call 79; refine hcall2.mono ?_; rintro e w3 (⟨vo, rfl, hc3⟩ | ⟨ao, outs, co, left', rfl, hOut, hol, HGW, hW3, hl3, hl4, hc3⟩))
            · have hBq : Ch [] w w3 := (hB.step hcq (fun x hx => .inr (by simp at hx; omega))).step hc3 (fun x hx => .inr (by simp at hx; omega))
              go_ret
              exact ⟨_, rfl, ⟨_, rfl⟩, hBq⟩
            · have hsz3 := hc3.size
              have hs30 : wO.heap.size ≤ w3.heap.size := by omega
              have hcOq3 := hcq.trans hc3
              have hHd := (hT.ch hc3 (fun b _ h => by simpa using HLW.out b h))
              have k0 := cell_ch k0 hc3 (by simpa using HLW.out _ hpb.1)
              have k1 := cell_ch k1 hc3 (by simpa using HLW.out _ hpb.1)
              have hMo3 := hMo.ch hc3 (by intro z hz; simp at hz; subst hz; exact .inl ⟨fun h => HLW.out _ h rfl, by omega⟩)
              have hmlv : ∀ b, u12.ownBlock = some b → wO.heap.size ≤ b ∧ b < wq.heap.size := fun b hb => by obtain ⟨c1, o1, _⟩ := hMo; exact o1.lt hb
              obtain ⟨Lo, hLo⟩ : ∃ Lo : Nat → Prop, Lo = fun b => (Lm b ∨ wq.heap.size ≤ b) ∧ b < w3.heap.size := ⟨_, rfl⟩
              have HLO : Hid (∀ b, Lo b ↔ (Lm b ∨ wq.heap.size ≤ b) ∧ b < w3.heap.size) := fun b => by rw [hLo]
              clear hLo
              have hOut3 : SlW Lo w3 (.slice ao outs.length co) outs := hOut.chq (Ch.refl [] _) (fun b hb h => ⟨by simp, (HLO.out b).2 ⟨h, hb⟩⟩)
              have hHd3 : SlT Lo w3 (.slice a3 hd.args.length c3) hd.args := hHd.weak (fun b hb h => (HLO.out b).2 ⟨.inl h, hb⟩)
              have hmo0 : ∀ b, Lo b → u12.ownBlock ≠ some b := fun b hb e => by
                have h1 := hmlv b e
                rcases ((HLO.out b).1 hb).1 with h2 | h2
                · have := ((HLM.out b).1 h2).2.1; omega
                · omega
              have HMO0 := Lib.hid hmo0
              obtain ⟨mv, hmv⟩ : ∃ mv : Value, mv = u12 := ⟨_, rfl⟩
              have HMOL : Hid (∀ b, Lo b → b ∉ mv.ownBlock.toList) := fun b hb hx => by
                rw [hmv] at hx
                cases hvo : u12.ownBlock with
                | none => rw [hvo] at hx; cases hx
                | some g6 => rw [hvo] at hx; simp at hx; subst hx; exact hmo0 b hb hvo
              have HMGE : Hid (∀ b, b ∈ mv.ownBlock.toList → wO.heap.size ≤ b) := fun b hx => by
                rw [hmv] at hx
                cases hvo : u12.ownBlock with
                | none => rw [hvo] at hx; cases hx
                | some g6 => rw [hvo] at hx; simp at hx; subst hx; exact (hmlv b hvo).1
              have HMS0 : Hid (∀ b, u12.ownBlock = some b → b ∈ mv.ownBlock.toList ∨ w3.heap.size ≤ b) := fun b hb => by rw [hmv, hb]; simp
              have hbLo : Lo b := (HLO.out b).2 ⟨.inl hpb.1, lt_of_cell k0⟩
              clear hmlv hOut hHd hT hMo hmo0 hLi hmv
              go_wp2
              go_loopw [12, 71] (fun mv2 i wz => ∃ (m : Nat) (more2 : List Tm), m ≤ outs.length ∧ i = .int .i64 m ∧ Ch mv.ownBlock.toList w3 wz ∧ OwnT3 Lm wz wO.heap.size mv2 more2 ∧ more2.length ≤ more.length + m ∧ Hid (GoodM B more2) ∧ Hid (∀ b, Lo b → mv2.ownBlock ≠ some b) ∧ Hid (∀ b, mv2.ownBlock = some b → b ∈ mv.ownBlock.toList ∨ w3.heap.size ≤ b)) (fun _ i _ => outs.length - (intOf i).toNat)
              case atStart => exact ⟨0, more, Nat.zero_le _, rfl, Ch.refl _ _, hMo3, Nat.le_refl _, HGM, HMO0, HMS0⟩
              case round =>
                obtain ⟨m, more2, hmm2, rfl, hcz, hMz, hmlz, HGz, HMZ, HMS⟩ := hrel
                obtain ⟨wz, rfl⟩ : ∃ wz : World, wz = wr := ⟨_, rfl⟩
                have hszz := hcz.size
                by_cases hltm : m < outs.length
                · obtain ⟨bo, oo, a6, c6, rfl, hpo, n0, sO⟩ := (hOut3.chq (q := Lo) hcz (fun b _ hb => ⟨HMOL.out b hb, hb⟩)).at_ hltm
                  have HGS := Lib.hid (HGW.out _ (List.getElem_mem hltm))
                  generalize outs[m] = s at *
                  have j0 := cell_ch k0 hcz (HMOL.out b hbLo)
                  have j1 := cell_ch k1 hcz (HMOL.out b hbLo)
                  have hHz := hHd3.ch hcz (fun b _ h => HMOL.out b h)
                  have hIC := fun wx (hx : Ch [] wz wx) => instC_all hd.sz hd s (Nat.le_refl _) (by omega) Lo (.slice a3 hd.args.length c3) (.slice a6 s.length c6) wx (hHz.ch0 hx) (sO.ch0 hx)
                  have hgI := pInst_good B 19 3 381 (by decide) (by decide) hd s HGS.out.1 HB3.out
                  obtain ⟨x, q, hpe⟩ : ∃ x q, pInst hd s = (x, q) := ⟨_, _, rfl⟩
                  rw [hpe] at hIC hgI
                  simp only at hIC hgI
                  have HGI : Hid (Nice B 19 x ∧ x.sz ≤ 7620) := ⟨hgI.1, by have h1 := hgI.2; have h2 := Nat.mul_le_mul_right 381 hb2; omega⟩
                  clear hpe hgI
                  have hcA := hIC _ ((Ch.refl [] wz).drew)
                  have hcB := hIC _ (((Ch.refl [] wz).alloc (.cells #[.string ⟨#[]⟩, .slice none 0 0] 52)).drew)
                  have hZ := (Blk.new wz 52 #[.string ⟨#[]⟩, .slice none 0 0]).drew
                  clear hIC
                  go_wp2
                  have nw1 := World.new_ne wz _ j0
                  have nw2 := World.new_ne wz _ n0
                  have nw3 := World.new_ne wz _ j1
                  go_region_held3 (fun w' => w'.cell? ⟨b, o + k * 3, none⟩ = some (.string hd.name) ∧ w'.cell? ⟨b, o + k * 3 + 1, none⟩ = some (.slice a3 hd.args.length c3) ∧ w'.cell? ⟨bo, oo + m, none⟩ = some (.slice a6 s.length c6)) (go_keep) (first
                    | (go_at_call 80; refine hcA.mono ?_; rintro e w4 ⟨v4, rfl, hv4, hc4⟩; obtain ⟨a7, c7, rfl, hl7, hm7⟩ := hv4.form; have hc4z := ((Ch.refl [] wz).drew).trans hc4; have z0 := cell_ch j0 hc4z (by simp); have z1 := cell_ch j1 hc4z (by simp); have z2 := cell_ch n0 hc4z (by simp))
                    | (go_at_call 80; refine hcB.mono ?_; rintro e w4 ⟨v4, rfl, hv4, hc4⟩; obtain ⟨a7, c7, rfl, hl7, hm7⟩ := hv4.form; have hc4z := (((Ch.refl [] wz).alloc (.cells #[.string ⟨#[]⟩, .slice none 0 0] 52)).drew).trans hc4; have z0 := cell_ch j0 hc4z (by simp); have z1 := cell_ch j1 hc4z (by simp); have z2 := cell_ch n0 hc4z (by simp); have hZ4 := hZ.ch hc4 (by simp); have y0 := hZ4.cell 0; have y1 := hZ4.cell 1; have f0 := hZ4.frozen 0; have f1 := hZ4.frozen 1))
                  · have hP : Blk (w4.alloc (.cells #[.string x.name, .slice a7 x.args.length c7] 52)) w4.heap.size 52 #[.string x.name, .slice a7 x.args.length c7] := Blk.new _ _ _
                    have h5 : Ch [] wz (w4.alloc (.cells #[.string x.name, .slice a7 x.args.length c7] 52)) := hc4z.alloc _
                    have hv5 : SlT (fun b => Lo b ∨ wz.heap.size ≤ b) (w4.alloc (.cells #[.string x.name, .slice a7 x.args.length c7] 52)) (.slice a7 x.args.length c7) x.args := (hv4.ch0 ((Ch.refl _ _).alloc _))
                    clear hv4 hc4 hc4z z0 z1 z2 hcA hcB
                    rename_i hHd
                    clear hHd
                    generalize (w4.alloc (.cells #[.string x.name, .slice a7 x.args.length c7] 52)) = W5 at *
                    generalize w4.heap.size = P5 at *
                    have hs5 := h5.size
                    obtain ⟨css, hown, htms⟩ := hMz
                    have hcl := htms.len
                    have hlv : ∀ b, u12.ownBlock = some b → wO.heap.size ≤ b ∧ b < wz.heap.size := fun b hb => hown.lt hb
                    have HLV := Lib.hid hlv; clear hlv
                    have p0 := hP.cell 0
                    have p1 := hP.cell 1
                    have HCL := Lib.hid hcl; clear hcl
                    cases q with
                    | false =>
                      go_wp2
                      go_roundw
                      case rel => exact ⟨m + 1, more2, by omega, by go_num, hcz.trans h5.of_nil, (OwnT3.ch ⟨css, hown, htms⟩ h5 (by simp)), by omega, HGz, HMZ, HMS⟩
                      case measure => simp [intOf]; omega
                    | true =>
                      go_wp2_with (at_builtin; refine wpList_append_sl rfl _ _ _ rfl elT (base := wO.heap.size) (v := u12) (css := css) rfl (hown.ch (h5.alloc (.cells #[.string x.name, .slice a7 x.args.length c7] 52)) (by simp)) rfl (Sl.one W5 2 52 [.string x.name, .slice a7 x.args.length c7] rfl (by simp [Value.oneCell'])) (by have := HCL.out; simp; omega) (by simp; omega) ?_; intro v8 w8 ho8 hc8 hat8 hn8; clear hn8)
                      have h5a := h5.alloc (.cells #[.string x.name, .slice a7 x.args.length c7] 52)
                      have hvW : SlT (fun b => (Lm b ∨ wO.heap.size ≤ b) ∧ u12.ownBlock ≠ some b) (W5.alloc (.cells #[.string x.name, .slice a7 x.args.length c7] 52)) (.slice a7 x.args.length c7) x.args := (hv5.ch0 ((Ch.refl _ _).alloc _)).weak fun b _ hb => by
                        rcases hb with hb | hb
                        · refine ⟨?_, HMZ.out b hb⟩
                          rcases ((HLO.out b).1 hb).1 with h6 | h6
                          · exact .inl h6
                          · exact .inr (by omega)
                        · exact ⟨.inr (by omega), fun e => by have := (HLV.out b e).2; omega⟩
                      have htW := TmsR.imp (q := fun b => (Lm b ∨ wO.heap.size ≤ b) ∧ u12.ownBlock ≠ some b) h5a.size (fun b hb hp => ⟨hp, h5a.block b hb (by simp)⟩) htms
                      have hoF := OwnT3.add htW hvW hc8 hat8 ho8
                      have hcF : Ch mv.ownBlock.toList w3 w8 := (hcz.trans h5a.of_nil).step hc8 (fun z hz => by
                        cases hvo : u12.ownBlock with
                        | none => rw [hvo] at hz; cases hz
                        | some g6 => rw [hvo] at hz; simp at hz; subst hz; exact HMS.out z hvo)
                      have hHS : ∀ b, v8.ownBlock = some b → b ∈ mv.ownBlock.toList ∨ w3.heap.size ≤ b := fun b e => by
                        rcases hat8 with h6 | h6
                        · rw [h6] at e; exact HMS.out b e
                        · rw [h6] at e; injection e with e; simp at e; exact .inr (by omega)
                      have HHS := Lib.hid hHS; clear hHS
                      have hHF : ∀ b, Lo b → v8.ownBlock ≠ some b := fun b hb e => by
                        rcases hat8 with h6 | h6
                        · rw [h6] at e; exact HMZ.out b hb e
                        · rw [h6] at e; injection e with e; have := ((HLO.out b).1 hb).2; simp at e; omega
                      have HHF := Lib.hid hHF; clear hHF
                      go_roundw
                      case rel => exact ⟨m + 1, more2 ++ [x], by omega, by go_num, hcF, hoF, by simp; omega, HGz.out.add HGI.out, HHF, HHS⟩
                      case measure => simp [intOf]; omega
                  · have hP : Blk ((w4.setCell ⟨wz.heap.size, 0, none⟩ (.string x.name)).setCell ⟨wz.heap.size, 1, none⟩ (.slice a7 x.args.length c7)) wz.heap.size 52 #[.string x.name, .slice a7 x.args.length c7] := (hZ4.set_ 0 _).set_ 1 _
                    have h5 : Ch [] wz ((w4.setCell ⟨wz.heap.size, 0, none⟩ (.string x.name)).setCell ⟨wz.heap.size, 1, none⟩ (.slice a7 x.args.length c7)) := (hc4z.set (.inr (Nat.le_refl _)) _).set (.inr (Nat.le_refl _)) _
                    have h45 : Ch [wz.heap.size] w4 ((w4.setCell ⟨wz.heap.size, 0, none⟩ (.string x.name)).setCell ⟨wz.heap.size, 1, none⟩ (.slice a7 x.args.length c7)) := ((Ch.refl _ _).set (by simp) _).set (by simp) _
                    have hv5 : SlT (fun b => Lo b ∨ wz.heap.size ≤ b) ((w4.setCell ⟨wz.heap.size, 0, none⟩ (.string x.name)).setCell ⟨wz.heap.size, 1, none⟩ (.slice a7 x.args.length c7)) (.slice a7 x.args.length c7) x.args := (hv4.ch h45 (fun b _ hb => by
                      simp
                      rintro rfl
                      rcases hb with hb | hb
                      · have := ((HLO.out _).1 hb).2; omega
                      · simp at hb; omega)).weak (fun b _ hb => by
                      rcases hb with hb | hb
                      · exact .inl hb
                      · simp at hb; exact .inr (by omega))
                    clear hv4 hc4 hc4z h45 hZ4 y0 y1 f0 f1 z0 z1 z2 hcA hcB
                    rename_i hHd
                    clear hHd
                    obtain ⟨W5, hW5⟩ : ∃ W5, W5 = ((w4.setCell ⟨wz.heap.size, 0, none⟩ (.string x.name)).setCell ⟨wz.heap.size, 1, none⟩ (.slice a7 x.args.length c7)) := ⟨_, rfl⟩
                    rw [← hW5] at hP h5 hv5 ⊢
                    clear hW5
                    have hs5 := h5.size
                    obtain ⟨css, hown, htms⟩ := hMz
                    have hcl := htms.len
                    have hlv : ∀ b, u12.ownBlock = some b → wO.heap.size ≤ b ∧ b < wz.heap.size := fun b hb => hown.lt hb
                    have HLV := Lib.hid hlv; clear hlv
                    have p0 := hP.cell 0
                    have p1 := hP.cell 1
                    have HCL := Lib.hid hcl; clear hcl
                    cases q with
                    | false =>
                      go_wp2
                      go_roundw
                      case rel => exact ⟨m + 1, more2, by omega, by go_num, hcz.trans h5.of_nil, (OwnT3.ch ⟨css, hown, htms⟩ h5 (by simp)), by omega, HGz, HMZ, HMS⟩
                      case measure => simp [intOf]; omega
                    | true =>
                      go_wp2_with (at_builtin; refine wpList_append_sl rfl _ _ _ rfl elT (base := wO.heap.size) (v := u12) (css := css) rfl (hown.ch (h5.alloc (.cells #[.string x.name, .slice a7 x.args.length c7] 52)) (by simp)) rfl (Sl.one W5 2 52 [.string x.name, .slice a7 x.args.length c7] rfl (by simp [Value.oneCell'])) (by have := HCL.out; simp; omega) (by simp; omega) ?_; intro v8 w8 ho8 hc8 hat8 hn8; clear hn8)
                      have h5a := h5.alloc (.cells #[.string x.name, .slice a7 x.args.length c7] 52)
                      have hvW : SlT (fun b => (Lm b ∨ wO.heap.size ≤ b) ∧ u12.ownBlock ≠ some b) (W5.alloc (.cells #[.string x.name, .slice a7 x.args.length c7] 52)) (.slice a7 x.args.length c7) x.args := (hv5.ch0 ((Ch.refl _ _).alloc _)).weak fun b _ hb => by
                        rcases hb with hb | hb
                        · refine ⟨?_, HMZ.out b hb⟩
                          rcases ((HLO.out b).1 hb).1 with h6 | h6
                          · exact .inl h6
                          · exact .inr (by omega)
                        · exact ⟨.inr (by omega), fun e => by have := (HLV.out b e).2; omega⟩
                      have htW := TmsR.imp (q := fun b => (Lm b ∨ wO.heap.size ≤ b) ∧ u12.ownBlock ≠ some b) h5a.size (fun b hb hp => ⟨hp, h5a.block b hb (by simp)⟩) htms
                      have hoF := OwnT3.add htW hvW hc8 hat8 ho8
                      have hcF : Ch mv.ownBlock.toList w3 w8 := (hcz.trans h5a.of_nil).step hc8 (fun z hz => by
                        cases hvo : u12.ownBlock with
                        | none => rw [hvo] at hz; cases hz
                        | some g6 => rw [hvo] at hz; simp at hz; subst hz; exact HMS.out z hvo)
                      have hHS : ∀ b, v8.ownBlock = some b → b ∈ mv.ownBlock.toList ∨ w3.heap.size ≤ b := fun b e => by
                        rcases hat8 with h6 | h6
                        · rw [h6] at e; exact HMS.out b e
                        · rw [h6] at e; injection e with e; simp at e; exact .inr (by omega)
                      have HHS := Lib.hid hHS; clear hHS
                      have hHF : ∀ b, Lo b → v8.ownBlock ≠ some b := fun b hb e => by
                        rcases hat8 with h6 | h6
                        · rw [h6] at e; exact HMZ.out b hb e
                        · rw [h6] at e; injection e with e; have := ((HLO.out b).1 hb).2; simp at e; omega
                      have HHF := Lib.hid hHF; clear hHF
                      go_roundw
                      case rel => exact ⟨m + 1, more2 ++ [x], by omega, by go_num, hcF, hoF, by simp; omega, HGz.out.add HGI.out, HHF, HHS⟩
                      case measure => simp [intOf]; omega
                · go_wp2
                  go_roundw
                  case rel => exact ⟨k + 1, more2, left', by omega, by go_num, hcOq3.step hcz (fun x hx => .inr (HMGE.out x hx)), hW3.ch hcz (fun hx => by have := HMGE.out _ hx; omega), hl3, hl4, hMz, by omega, HGz⟩
                  case measure => simp [intOf]; omega
          · have hkl : k = l.length := by omega
            have hml2 : more.length ≤ 800000 := by omega
            obtain ⟨mv, hmv⟩ : ∃ mv : Value, mv = u12 := ⟨_, rfl⟩
            have hmlv : ∀ b, u12.ownBlock = some b → wO.heap.size ≤ b ∧ b < wq.heap.size := fun b hb => by obtain ⟨c1, o1, _⟩ := hMo; exact o1.lt hb
            have HMGE : Hid (∀ b, b ∈ mv.ownBlock.toList → wO.heap.size ≤ b) := fun b hx => by
              rw [hmv] at hx
              cases hvo : u12.ownBlock with
              | none => rw [hvo] at hx; cases hx
              | some g6 => rw [hvo] at hx; simp at hx; subst hx; exact (hmlv b hvo).1
            have HMS0 : Hid (∀ b, u12.ownBlock = some b → b ∈ mv.ownBlock.toList ∨ wq.heap.size ≤ b) := fun b hb => by rw [hmv, hb]; simp
            have hATq := hATS2.ch hcq (fun b _ h => by have := HDF.out; simp; omega) (fun b _ h => by simpa using HLW.out b h)
            clear hmlv hmv hml hkl
            go_wp2
            go_loopw [12, 96] (fun mv2 i wz => ∃ (j : Nat) (more2 : List Tm), j ≤ ats.length ∧ i = .int .i64 j ∧ Ch mv.ownBlock.toList wq wz ∧ OwnT3 Lm wz wO.heap.size mv2 more2 ∧ more2.length ≤ 800000 + j ∧ Hid (GoodM B more2) ∧ Hid (∀ b, mv2.ownBlock = some b → b ∈ mv.ownBlock.toList ∨ wq.heap.size ≤ b)) (fun _ i _ => ats.length - (intOf i).toNat)
            case atStart => exact ⟨0, more, Nat.zero_le _, rfl, Ch.refl _ _, hMo, by omega, HGM, HMS0⟩
            case round =>
              obtain ⟨j, more2, hj, rfl, hcz, hMz, hmlz, HGz, HMS⟩ := hrel
              obtain ⟨wz, rfl⟩ : ∃ wz : World, wz = wr := ⟨_, rfl⟩
              have hszz := hcz.size
              by_cases hltj : j < ats.length
              · obtain ⟨bt, ot, a6, c6, rfl, hpt, t0, t1, hTt⟩ := (hATq.ch hcz (fun b _ h hx => by have := HMGE.out b hx; omega) (fun b _ h hx => by have h1 := HMGE.out b hx; have h2 := ((HLM.out b).1 h).2.1; omega)).at_ hltj
                have HGT := Lib.hid (HG.out _ (List.getElem_mem hltj))
                generalize ats[j] = t at *
                obtain ⟨css, hown, htms⟩ := hMz
                have hcl := htms.len
                have HCL := Lib.hid hcl; clear hcl
                have hTW : ∀ wA, Ch [] wz wA → SlT (fun b => (Lm b ∨ wO.heap.size ≤ b) ∧ u12.ownBlock ≠ some b) wA (.slice a6 t.args.length c6) t.args := fun wA hA => (hTt.ch0 hA).weak fun b _ hb => ⟨.inl hb, fun e => by have h1 := (hown.lt e).1; have h2 := ((HLM.out b).1 hb).2.1; omega⟩
                have HTW := Lib.hid hTW; clear hTW
                have hgt : ∀ s : ByteArray, s.size ≤ 5 → Nice B 19 (.mk s t.args) ∧ (Tm.mk s t.args).sz ≤ 7620 := fun s hs => by
                  obtain ⟨h1, h2⟩ := HGT.out
                  have h3 := sz_geo B 19 t h1
                  have h4 := geo_mono 19 h2
                  have h5 : geo 19 4 = 7240 := by decide
                  obtain ⟨tn, ta⟩ := t
                  simp only [Nice, Tm.args, Tm.sz] at h1 h3 ⊢
                  exact ⟨⟨by omega, h1.2.1, h1.2.2⟩, by omega⟩
                have HGT2 := Lib.hid hgt; clear hgt
                have hcs : (t.args.length = 1 ∧ t.name = ⟨#[105, 110, 105, 116]⟩) ∨ (t.args.length = 1 ∧ t.name ≠ ⟨#[105, 110, 105, 116]⟩ ∧ t.name = ⟨#[110, 101, 120, 116]⟩) ∨ (t.args.length = 1 ∧ t.name ≠ ⟨#[105, 110, 105, 116]⟩ ∧ t.name ≠ ⟨#[110, 101, 120, 116]⟩) ∨
                    (t.args.length = 2 ∧ t.name = ⟨#[108, 101, 103, 97, 108]⟩) ∨ (t.args.length = 2 ∧ t.name ≠ ⟨#[108, 101, 103, 97, 108]⟩) ∨ (t.args.length ≠ 1 ∧ t.args.length ≠ 2) := by
                  by_cases e1 : t.args.length = 1 <;> by_cases e2 : t.args.length = 2 <;> by_cases e3 : t.name = ⟨#[105, 110, 105, 116]⟩ <;> by_cases e4 : t.name = ⟨#[110, 101, 120, 116]⟩ <;> by_cases e5 : t.name = ⟨#[108, 101, 103, 97, 108]⟩ <;> simp_all
                have i1 := init_eq t.name
                have i2 := next_eq t.name
                have i3 := legal_eq t.name
                rcases hcs with ⟨e1, e2⟩ | ⟨e1, e2, e3⟩ | ⟨e1, e2, e3⟩ | ⟨e1, e2⟩ | ⟨e1, e2⟩ | ⟨e1, e2⟩
                · have d1 : ((t.args.length : Int) == 1) = true := by simp [e1]
                  rw [decide_eq_true e2] at i1
                  clear i2 i3 e1 e2
                  go_wp2_with (at_builtin; refine wpList_append_sl rfl _ _ _ rfl elT (base := wO.heap.size) (v := u12) (css := css) rfl (hown.ch ((Ch.refl [] wz).alloc (.cells #[.string ⟨#[116, 114, 117, 101]⟩, .slice a6 t.args.length c6] 52)) (by simp)) rfl (Sl.one wz 2 52 [.string ⟨#[116, 114, 117, 101]⟩, .slice a6 t.args.length c6] rfl (by simp [Value.oneCell'])) (by have := HCL.out; simp; omega) (by have := hcq.size; simp; omega) ?_; intro v8 w8 ho8 hc8 hat8 hn8; clear hn8)
                  obtain ⟨hoF, hcF, hSF⟩ := more_add (x := .mk ⟨#[116, 114, 117, 101]⟩ t.args) htms hcz HMS.out (HTW.out _ ((Ch.refl [] wz).alloc (.cells #[.string ⟨#[116, 114, 117, 101]⟩, .slice a6 t.args.length c6] 52))) ((Ch.refl [] wz).alloc (.cells #[.string ⟨#[116, 114, 117, 101]⟩, .slice a6 t.args.length c6] 52)) hc8 hat8 ho8
                  have HSF := Lib.hid hSF; clear hSF
                  go_roundw
                  case rel => exact ⟨j + 1, more2 ++ [.mk ⟨#[116, 114, 117, 101]⟩ t.args], by omega, by go_num, hcF, hoF, by simp; omega, HGz.out.add (HGT2.out _ (by decide)), HSF⟩
                  case measure => simp [intOf]; omega
                · have d1 : ((t.args.length : Int) == 1) = true := by simp [e1]
                  rw [decide_eq_false e2] at i1
                  rw [decide_eq_true e3] at i2
                  clear i3 e1 e2 e3
                  go_wp2_with (at_builtin; refine wpList_append_sl rfl _ _ _ rfl elT (base := wO.heap.size) (v := u12) (css := css) rfl (hown.ch ((Ch.refl [] wz).alloc (.cells #[.string ⟨#[116, 114, 117, 101]⟩, .slice a6 t.args.length c6] 52)) (by simp)) rfl (Sl.one wz 2 52 [.string ⟨#[116, 114, 117, 101]⟩, .slice a6 t.args.length c6] rfl (by simp [Value.oneCell'])) (by have := HCL.out; simp; omega) (by have := hcq.size; simp; omega) ?_; intro v8 w8 ho8 hc8 hat8 hn8; clear hn8)
                  obtain ⟨hoF, hcF, hSF⟩ := more_add (x := .mk ⟨#[116, 114, 117, 101]⟩ t.args) htms hcz HMS.out (HTW.out _ ((Ch.refl [] wz).alloc (.cells #[.string ⟨#[116, 114, 117, 101]⟩, .slice a6 t.args.length c6] 52))) ((Ch.refl [] wz).alloc (.cells #[.string ⟨#[116, 114, 117, 101]⟩, .slice a6 t.args.length c6] 52)) hc8 hat8 ho8
                  have HSF := Lib.hid hSF; clear hSF
                  go_roundw
                  case rel => exact ⟨j + 1, more2 ++ [.mk ⟨#[116, 114, 117, 101]⟩ t.args], by omega, by go_num, hcF, hoF, by simp; omega, HGz.out.add (HGT2.out _ (by decide)), HSF⟩
                  case measure => simp [intOf]; omega
                · have d1 : ((t.args.length : Int) == 1) = true := by simp [e1]
                  have d2 : ((t.args.length : Int) == 2) = false := by simp [e1]
                  rw [decide_eq_false e2] at i1
                  rw [decide_eq_false e3] at i2
                  clear i3 e1 e2 e3
                  go_wp2
                  go_roundw
                  case rel => exact ⟨j + 1, more2, by omega, by go_num, hcz, ⟨css, hown, htms⟩, by omega, HGz, HMS⟩
                  case measure => simp [intOf]; omega
                · have d1 : ((t.args.length : Int) == 1) = false := by simp [e1]
                  have d2 : ((t.args.length : Int) == 2) = true := by simp [e1]
                  rw [decide_eq_true e2] at i3
                  clear i1 i2 e1 e2
                  go_wp2_with (at_builtin; refine wpList_append_sl rfl _ _ _ rfl elT (base := wO.heap.size) (v := u12) (css := css) rfl (hown.ch ((Ch.refl [] wz).alloc (.cells #[.string ⟨#[100, 111, 101, 115]⟩, .slice a6 t.args.length c6] 52)) (by simp)) rfl (Sl.one wz 2 52 [.string ⟨#[100, 111, 101, 115]⟩, .slice a6 t.args.length c6] rfl (by simp [Value.oneCell'])) (by have := HCL.out; simp; omega) (by have := hcq.size; simp; omega) ?_; intro v8 w8 ho8 hc8 hat8 hn8; clear hn8)
                  obtain ⟨hoF, hcF, hSF⟩ := more_add (x := .mk ⟨#[100, 111, 101, 115]⟩ t.args) htms hcz HMS.out (HTW.out _ ((Ch.refl [] wz).alloc (.cells #[.string ⟨#[100, 111, 101, 115]⟩, .slice a6 t.args.length c6] 52))) ((Ch.refl [] wz).alloc (.cells #[.string ⟨#[100, 111, 101, 115]⟩, .slice a6 t.args.length c6] 52)) hc8 hat8 ho8
                  have HSF := Lib.hid hSF; clear hSF
                  go_roundw
                  case rel => exact ⟨j + 1, more2 ++ [.mk ⟨#[100, 111, 101, 115]⟩ t.args], by omega, by go_num, hcF, hoF, by simp; omega, HGz.out.add (HGT2.out _ (by decide)), HSF⟩
                  case measure => simp [intOf]; omega
                · have d1 : ((t.args.length : Int) == 1) = false := by simp [e1]
                  have d2 : ((t.args.length : Int) == 2) = true := by simp [e1]
                  rw [decide_eq_false e2] at i3
                  clear i1 i2 e1 e2
                  go_wp2
                  go_roundw
                  case rel => exact ⟨j + 1, more2, by omega, by go_num, hcz, ⟨css, hown, htms⟩, by omega, HGz, HMS⟩
                  case measure => simp [intOf]; omega
                · have d1 : ((t.args.length : Int) == 1) = false := by simp; omega
                  have d2 : ((t.args.length : Int) == 2) = false := by simp; omega
                  clear i1 i2 i3 e1 e2
                  go_wp2
                  go_roundw
                  case rel => exact ⟨j + 1, more2, by omega, by go_num, hcz, ⟨css, hown, htms⟩, by omega, HGz, HMS⟩
                  case measure => simp [intOf]; omega
              · obtain ⟨a8, c8, hu8, hl8, hm8⟩ := hMz.slt.form
                subst hu8
                unfold maxLen at hm8
                obtain ⟨P6, hP6⟩ : ∃ P6 : Nat → Prop, P6 = fun b => (Lm b ∨ wO.heap.size ≤ b) ∧ b < wz.heap.size := ⟨_, rfl⟩
                have HP6 : Hid (∀ b, P6 b ↔ (Lm b ∨ wO.heap.size ≤ b) ∧ b < wz.heap.size) := fun b => by rw [hP6]
                clear hP6
                have hM6 : SlT P6 wz (.slice a8 more2.length c8) more2 := hMz.slt.weak fun b hb h => (HP6.out b).2 ⟨h, hb⟩
                have hcO6 : Ch (W :: mv.ownBlock.toList) wO wz := (hcq.mono (fun x hx => .inl (by simp at hx; simp [hx]))).step hcz (fun x hx => .inl (by simp [hx]))
                have hOK := HOK.out
                have hD6 : AddAt wz base L K A M kv (.slice a5 ats.length c5) ats := hD.ch hcO6 (by have := hOK.kb; have := HDF.out; simp; exact ⟨by omega, fun hx => by have h9 := HMGE.out K (by rw [hx]; simp); omega⟩) (by have := hOK.ab; have := HDF.out; simp; exact ⟨by omega, fun hx => by have h9 := HMGE.out A (by rw [hx]; simp); omega⟩) (by have := hOK.mb; have := HDF.out; simp; exact ⟨by omega, fun hx => by have h9 := HMGE.out M (by rw [hx]; simp); omega⟩) (fun x hx => by
                  rcases List.mem_cons.1 hx with rfl | hx
                  · exact .inl ⟨HWL.out, HDF.out.2.2⟩
                  · exact .inr (HMGE.out x hx))
                have hW6 : Blk wz W 106 #[.int .i64 lf'] := hWq.ch hcz (fun hx => by have := HMGE.out _ hx; omega)
                have HA6 : Hid (∀ b, P6 b → b ∉ A :: M :: (Value.slice a5 ats.length c5).ownBlock.toList) := fun b hb hx => by
                  have h1 := (HP6.out b).1 hb
                  have h2 := hOK.ab
                  have h3 := hOK.mb
                  rcases List.mem_cons.1 hx with e | hx
                  · subst e
                    rcases h1.1 with h4 | h4
                    · rcases ((HLM.out _).1 h4).1 with h5 | h5
                      · exact hOK.al h5
                      · omega
                    · omega
                  · rcases List.mem_cons.1 hx with e | hx
                    · subst e
                      rcases h1.1 with h4 | h4
                      · rcases ((HLM.out _).1 h4).1 with h5 | h5
                        · exact hOK.ml h5
                        · omega
                      · omega
                    · cases hvo : (Value.slice a5 ats.length c5).ownBlock with
                      | none => rw [hvo] at hx; cases hx
                      | some g6 =>
                        rw [hvo] at hx; simp at hx; subst hx
                        rcases h1.1 with h4 | h4
                        · exact ((HLM.out _).1 h4).2.2 hvo
                        · have := (HLV0.out _ hvo).2; omega
                have HLA : Hid (∀ b, P6 b → L b ∨ base ≤ b) := fun b hb => by
                  rcases ((HP6.out b).1 hb).1 with h4 | h4
                  · exact ((HLM.out _).1 h4).1
                  · exact .inr (by omega)
                obtain ⟨avO, havO⟩ : ∃ avO : Value, avO = .slice a5 ats.length c5 := ⟨_, rfl⟩
                have HC6 : Hid (Ch [] w wz) := hB.step hcO6 (fun x hx => by
                  rcases List.mem_cons.1 hx with rfl | hx
                  · exact .inr (by omega)
                  · exact .inr (by have := HMGE.out x hx; have := hB.size; omega))
                have HAV : Hid (∀ b, b ∈ avO.ownBlock.toList → base ≤ b) := fun b hx => by
                  rw [havO] at hx
                  cases hvo : (Value.slice a5 ats.length c5).ownBlock with
                  | none => rw [hvo] at hx; cases hx
                  | some g6 => rw [hvo] at hx; simp at hx; subst hx; exact (HLV0.out _ hvo).1
                rw [← havO] at HA6
                have HAO : Hid (∀ b, (Value.slice a5 ats.length c5).ownBlock = some b → avO.ownBlock = some b ∨ wz.heap.size ≤ b) := fun b hb => .inl (by rw [havO]; exact hb)
                have hml6 : more2.length ≤ 801000 := by omega
                clear havO hMz hcO6 hATq
                go_wp2
                go_loopw [160] (fun i wy => ∃ (m : Nat) (kv2 : List (ByteArray × Value)) (av2 : Value) (ats2 : List Tm), m ≤ more2.length ∧ i = .int .i64 m ∧ Ch (A :: M :: avO.ownBlock.toList) wz wy ∧ AddAt wy base L K A M kv2 av2 ats2 ∧ ats2.length ≤ 1000 + m ∧ Hid (GoodA B ats2) ∧ Hid (∀ b, av2.ownBlock = some b → avO.ownBlock = some b ∨ wz.heap.size ≤ b)) (fun i _ => more2.length - (intOf i).toNat)
                case atStart => exact ⟨0, kv, _, ats, Nat.zero_le _, rfl, Ch.refl _ _, hD6, by omega, HG, HAO⟩
                case round =>
                  obtain ⟨m, kv2, av2, ats2, hm6, rfl, hcy, hDy, haly, HGy, HAy⟩ := hrel
                  obtain ⟨wy, rfl⟩ : ∃ wy : World, wy = wr := ⟨_, rfl⟩
                  have hszy := hcy.size
                  by_cases hltm : m < more2.length
                  · obtain ⟨bx, ox, a9, c9, rfl, hpx, x0, x1, hTx⟩ := (hM6.ch hcy (fun b _ hb => HA6.out b hb)).at_ hltm
                    have hgx := HGz.out _ (List.getElem_mem hltm)
                    generalize more2[m] = x at *
                    have hkx := ksz_le B 19 x hgx.1
                    have hkx2 := Nat.mul_le_mul hgx.2 (show B + 3 ≤ 140737488355331 by omega)
                    have HN := Lib.hid hgx.1
                    have hcall := add_ (kv := kv2) (av := av2) (ats := ats2) x P6 (.slice a9 x.args.length c9) wy HOK.out hDy hTx (fun b hb h => ⟨HLA.out b h, fun e => by
                      rcases HAy.out b e with h1 | h1
                      · exact HA6.out b h (by simp [h1])
                      · have := ((HP6.out b).1 h).2; omega⟩) (by omega) (by have := hgx.2; omega) (by omega) (by omega)
                    clear hgx hkx hkx2
                    go_wp2_with (go_at_call 76; refine hcall.mono ?_; rintro e w7 ⟨rfl, kv3, av3, ats3, hD7, hats, hav, hc7⟩; clear hcall)
                    have hcF : Ch (A :: M :: avO.ownBlock.toList) wz w7 := hcy.step hc7 (fun z hz => by
                      rcases List.mem_cons.1 hz with h1 | hz
                      · exact .inl (by simp [h1])
                      · rcases List.mem_cons.1 hz with h1 | hz
                        · exact .inl (by simp [h1])
                        · cases hvo : av2.ownBlock with
                          | none => rw [hvo] at hz; cases hz
                          | some g6 =>
                            rw [hvo] at hz; simp at hz; subst hz
                            rcases HAy.out _ hvo with h1 | h1
                            · exact .inl (by simp [h1])
                            · exact .inr h1)
                    have hAF : Hid (∀ b, av3.ownBlock = some b → avO.ownBlock = some b ∨ wz.heap.size ≤ b) := fun b hb => by
                      rcases hav with h1 | ⟨g, h1, h2⟩
                      · rw [h1] at hb; exact HAy.out b hb
                      · rw [h1] at hb; injection hb with hb; exact .inr (by omega)
                    have hGF : Hid (GoodA B ats3) := by
                      rcases hats with h1 | ⟨h1, h2⟩
                      · rw [h1]; exact HGy
                      · rw [h1]; exact HGy.out.add ⟨HN.out, h2⟩
                    have hlF : ats3.length ≤ 1000 + (m + 1) := by
                      rcases hats with h1 | ⟨h1, _⟩
                      · rw [h1]; omega
                      · rw [h1]; simp; omega
                    go_roundw
                    case rel => exact ⟨m + 1, kv3, av3, ats3, by omega, by go_num, hcF, hD7, hlF, hGF, hAF⟩
                    case measure => simp [intOf]; omega
                  · have hCF : Ch [] w wy := HC6.out.step hcy (fun x hx => .inr (by
                      have h2 := HOK.out
                      rcases List.mem_cons.1 hx with h1 | hx
                      · omega
                      · rcases List.mem_cons.1 hx with h1 | hx
                        · omega
                        · have := HAV.out x hx; omega))
                    have hWF : Blk wy W 106 #[.int .i64 lf'] := hW6.ch hcy (fun hx => by
                      have h2 := HDF.out
                      rcases List.mem_cons.1 hx with h1 | hx
                      · omega
                      · rcases List.mem_cons.1 hx with h1 | hx
                        · omega
                        · have := HAV.out _ hx; omega)
                    go_wp2
                    go_roundw
                    case rel => exact ⟨ats.length, kv2, av2, ats2, lf', rfl, hCF, by omega, hWF, hg1, hg2, hDy, by omega, HGy, by omega, by omega⟩
                    case measure => simp [intOf]; omega
      · by_cases hgo1 : n < ats.length
        · have hgo2 : ¬ ((ats.length : Int) ≤ 1000) := by omega
          clear hgo
          go_wp2
          go_ret
          exact ⟨_, rfl, ⟨_, rfl⟩, hB⟩
        · clear hgo
          by_cases hq : (ats.length : Int) ≤ 1000
          all_goals
            go_wp2
            go_ret
            exact ⟨_, rfl, ⟨_, rfl⟩, hB⟩
end Go.Proofs.Ytbjdikeaolibpaa
