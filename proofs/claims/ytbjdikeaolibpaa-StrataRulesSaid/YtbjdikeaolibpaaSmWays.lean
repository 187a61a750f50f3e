/-
  The contract of (*plain.work).ways.
  The contract of (*plain.work).ways: the walk.
-/
import Derived.Test.YtbjdikeaolibpaaSmInst
namespace Go.Proofs.Ytbjdikeaolibpaa

section
open Go.RowKit

/-- a slice of terms whose own row lies where p' holds, the terms' rows where p holds -/
def SlT2 (p' p : Nat → Prop) (w : World) (v : Value) (ts : List Tm) : Prop := ∃ css, Sl p' w 2 v css ∧ TmsR p w ts css
theorem SlT2.form {p' p : Nat → Prop} {w : World} {v : Value} {ts : List Tm} (h : SlT2 p' p w v ts) : ∃ a c, v = .slice a ts.length c ∧ ts.length ≤ c ∧ c ≤ maxLen := by
  obtain ⟨css, h1, h2⟩ := h
  have := Sl.form' h1
  rwa [h2.len] at this
theorem SlT2.imp {p' q' p q : Nat → Prop} {w w' : World} {v : Value} {ts : List Tm} (h : SlT2 p' p w v ts) (hs : w.heap.size ≤ w'.heap.size) (hk' : ∀ b, b < w.heap.size → p' b → q' b ∧ w'.heap[b]? = w.heap[b]?) (hk : ∀ b, b < w.heap.size → p b → q b ∧ w'.heap[b]? = w.heap[b]?) : SlT2 q' q w' v ts := by
  obtain ⟨css, h1, h2⟩ := h
  exact ⟨css, h1.imp hs hk', TmsR.imp hs hk h2⟩
theorem SlT2.ch {p' p : Nat → Prop} {S : List Nat} {w w' : World} {v : Value} {ts : List Tm} (h : SlT2 p' p w v ts) (hc : Ch S w w') (hp' : ∀ b, b < w.heap.size → p' b → b ∉ S) (hp : ∀ b, b < w.heap.size → p b → b ∉ S) : SlT2 p' p w' v ts :=
  h.imp hc.size (fun b hb h1 => ⟨h1, hc.block b hb (hp' b hb h1)⟩) (fun b hb h1 => ⟨h1, hc.block b hb (hp b hb h1)⟩)
theorem SlT2.at_ {p' p : Nat → Prop} {w : World} {a : Option Addr} {n c i : Nat} {ts : List Tm} (h : SlT2 p' p w (.slice a n c) ts) (hi : i < ts.length) : ∃ b o a' c', a = some ⟨b, o, none⟩ ∧ (p' b ∧ b < w.heap.size) ∧
    w.cell? ⟨b, o + i * 2, none⟩ = some (.string ts[i].name) ∧ w.cell? ⟨b, o + i * 2 + 1, none⟩ = some (.slice a' ts[i].args.length c') ∧ SlT p w (.slice a' ts[i].args.length c') ts[i].args := by
  obtain ⟨css, h1, h2⟩ := h
  have hi' : i < css.length := by rw [h2.len]; exact hi
  obtain ⟨b, o, rfl, hp, hc⟩ := Sl.at_ h1 (List.getElem?_eq_getElem hi')
  have hr := h2.get (List.getElem?_eq_getElem hi) (List.getElem?_eq_getElem hi')
  generalize ts[i] = t at hr ⊢
  obtain ⟨nm, ags⟩ := t
  simp only [TmR] at hr
  obtain ⟨v, css', e, hv, hr⟩ := hr
  have hT : SlT p w v ags := ⟨css', hv, hr⟩
  obtain ⟨a', c', rfl, _⟩ := hT.form
  rw [e] at hc
  exact ⟨b, o, a', c', rfl, hp, by simpa [Tm.name] using hc 0 _ rfl, by simpa [Tm.args, Nat.add_assoc] using hc 1 _ rfl, hT⟩
/-- a list of pairs as an element -/
def PwR (p : Nat → Prop) (w : World) (s : List Pr) (cs : List Value) : Prop := ∃ u, cs = [u] ∧ SlPr p w u s
theorem imp_pw : Imp PwR := fun _ _ _ _ _ _ hs hk h => by
  obtain ⟨u, h1, h2⟩ := h
  exact ⟨u, h1, SlG.imp h2 hs hk fun x cs hx => imp_pr _ _ _ _ _ _ hs hk hx⟩
def SlW (p : Nat → Prop) (w : World) (v : Value) (xs : List (List Pr)) : Prop := SlG (PwR p) 1 p w v xs
theorem SlW.form {p : Nat → Prop} {w : World} {v : Value} {xs : List (List Pr)} (h : SlW p w v xs) : ∃ a c, v = .slice a xs.length c ∧ xs.length ≤ c ∧ c ≤ maxLen := SlG.form h
theorem SlW.at_ {p : Nat → Prop} {w : World} {a : Option Addr} {n c i : Nat} {xs : List (List Pr)} (h : SlW p w (.slice a n c) xs) (hi : i < xs.length) : ∃ b o a' c', a = some ⟨b, o, none⟩ ∧ (p b ∧ b < w.heap.size) ∧
    w.cell? ⟨b, o + i, none⟩ = some (.slice a' xs[i].length c') ∧ SlPr p w (.slice a' xs[i].length c') xs[i] := by
  obtain ⟨b, o, cs, rfl, hp, hc, u, e, hT⟩ := SlG.at_ h hi
  obtain ⟨a', c', rfl, _⟩ := hT.form
  rw [e] at hc
  exact ⟨b, o, a', c', rfl, hp, by simpa using hc 0 _ rfl, hT⟩
theorem SlW.chq {p q : Nat → Prop} {S : List Nat} {w w' : World} {v : Value} {xs : List (List Pr)} (h : SlW p w v xs) (hc : Ch S w w') (hp : ∀ b, b < w.heap.size → p b → b ∉ S ∧ q b) : SlW q w' v xs :=
  SlG.imp h hc.size (fun b hb h1 => ⟨(hp b hb h1).2, hc.block b hb (hp b hb h1).1⟩) fun _ _ hx => imp_pw _ _ _ _ _ _ hc.size (fun b hb h1 => ⟨(hp b hb h1).2, hc.block b hb (hp b hb h1).1⟩) hx
theorem SlPr.chq {p q : Nat → Prop} {S : List Nat} {w w' : World} {v : Value} {xs : List Pr} (h : SlPr p w v xs) (hc : Ch S w w') (hp : ∀ b, b < w.heap.size → p b → b ∉ S ∧ q b) : SlPr q w' v xs :=
  SlG.imp h hc.size (fun b hb h1 => ⟨(hp b hb h1).2, hc.block b hb (hp b hb h1).1⟩) fun _ _ hx => imp_pr _ _ _ _ _ _ hc.size (fun b hb h1 => ⟨(hp b hb h1).2, hc.block b hb (hp b hb h1).1⟩) hx
/-- a row of lists of pairs of the call's own, from base on; the lists' own rows lie where L holds or from base on -/
def OwnW (L : Nat → Prop) (w : World) (base : Nat) (v : Value) (xs : List (List Pr)) : Prop :=
  ∃ css, Own w base 115 1 v css ∧ css.length = xs.length ∧ ∀ (i : Nat) (cs : List Value) (x : List Pr), css[i]? = some cs → xs[i]? = some x → PwR (fun b => (L b ∨ base ≤ b) ∧ v.ownBlock ≠ some b) w x cs
theorem OwnW.nil (L : Nat → Prop) (w : World) (base : Nat) : OwnW L w base (.slice none 0 0) [] := ⟨[], Own.nil _ _ _ _, rfl, by simp⟩
theorem OwnW.ch {L : Nat → Prop} {S : List Nat} {w w' : World} {base : Nat} {v : Value} {xs : List (List Pr)} (h : OwnW L w base v xs) (hc : Ch S w w') (hS : ∀ x ∈ S, (¬ L x ∧ x < base) ∨ w.heap.size ≤ x) : OwnW L w' base v xs := by
  obtain ⟨css, h2, hl, h3⟩ := h
  refine ⟨css, h2.ch hc (fun b hb hm => ?_), hl, fun i cs x h4 h5 => imp_pw _ _ _ _ _ _ hc.size (fun b hb hp => ⟨hp, hc.block b hb (fun hm => ?_)⟩) (h3 i cs x h4 h5)⟩
  · have := h2.lt hb; rcases hS b hm with h | h <;> omega
  · rcases hS b hm with h | h
    · rcases hp.1 with h1 | h1
      · exact h.1 h1
      · omega
    · omega
theorem OwnW.slw {L : Nat → Prop} {w : World} {base : Nat} {v : Value} {xs : List (List Pr)} (h : OwnW L w base v xs) : SlW (fun b => L b ∨ base ≤ b) w v xs := by
  obtain ⟨css, h2, hl, h3⟩ := h
  exact ⟨css, h2.sl.weak (fun b _ hb => .inr hb.1), hl, fun i cs x h4 h5 => imp_pw _ _ _ _ _ _ (Nat.le_refl _) (fun b _ hp => ⟨hp.1, rfl⟩) (h3 i cs x h4 h5)⟩
theorem OwnW.add {L : Nat → Prop} {w1 w2 : World} {base : Nat} {v v' u : Value} {xs : List (List Pr)} {css : List (List Value)} {y : List Pr} (hl : css.length = xs.length)
    (h2 : ∀ (i : Nat) (cs : List Value) (x : List Pr), css[i]? = some cs → xs[i]? = some x → PwR (fun b => (L b ∨ base ≤ b) ∧ v.ownBlock ≠ some b) w1 x cs)
    (hg : SlPr (fun b => (L b ∨ base ≤ b) ∧ v.ownBlock ≠ some b) w1 u y) (hc : Ch v.ownBlock.toList w1 w2) (hat : v'.ownBlock = v.ownBlock ∨ v'.ownBlock = some w1.heap.size) (ho : Own w2 base 115 1 v' (css ++ [[u]])) : OwnW L w2 base v' (xs ++ [y]) := by
  have key : ∀ b, b < w1.heap.size → ((L b ∨ base ≤ b) ∧ v.ownBlock ≠ some b) → ((L b ∨ base ≤ b) ∧ v'.ownBlock ≠ some b) ∧ w2.heap[b]? = w1.heap[b]? := by
    intro b hb hp
    refine ⟨⟨hp.1, fun e => ?_⟩, hc.block b hb (fun hm => ?_)⟩
    · rcases hat with h | h
      · exact hp.2 (h ▸ e)
      · rw [h] at e; injection e with e; omega
    · cases hv : v.ownBlock with
      | none => rw [hv] at hm; cases hm
      | some g' => rw [hv] at hm; simp at hm; subst hm; exact hp.2 hv
  refine ⟨_, ho, by simp [hl], fun i cs x h4 h5 => ?_⟩
  rcases Nat.lt_or_ge i css.length with hi | hi
  · rw [List.getElem?_append_left hi] at h4
    rw [List.getElem?_append_left (by omega)] at h5
    exact imp_pw _ _ _ _ _ _ hc.size key (h2 i cs x h4 h5)
  · rw [List.getElem?_append_right hi] at h4
    rw [List.getElem?_append_right (by omega), ← hl] at h5
    cases hd : i - css.length with
    | zero =>
      rw [hd] at h4 h5
      simp at h4 h5
      subst h4 h5
      exact imp_pw _ _ _ _ _ _ hc.size key ⟨u, rfl, hg⟩
    | succ m => rw [hd] at h4; simp at h4
/-- what is known of a list of ways -/
def GoodW (B m : Nat) (xs : List (List Pr)) : Prop := ∀ s ∈ xs, GoodP B 19 3 s ∧ s.length ≤ m
theorem GoodW.add {B m : Nat} {xs : List (List Pr)} (h : GoodW B m xs) {s : List Pr} (hs : GoodP B 19 3 s ∧ s.length ≤ m) : GoodW B m (xs ++ [s]) := fun x hx => by
  rcases List.mem_append.1 hx with h1 | h1
  · exact h x h1
  · rw [List.mem_singleton] at h1; subst h1; exact hs
end

section
open Go.RowKit

set_option maxRecDepth 100000 in
set_option maxHeartbeats 8000000 in
theorem ways_ (B : Nat) (p p' : Nat → Prop) (W : Nat) (vb va : Value) (body : List Li) (ats : List Tm) (w : World) (left : Int)
    (hW : Blk w W 106 #[.int .i64 left]) (hp : ∀ b, p b → b ≠ W) (hp' : ∀ b, p' b → b ≠ W) (hb : SlLi p w vb body) (ha : SlT2 p' p w va ats) (hbl : body.length ≤ 100) (hal : ats.length ≤ 1000000)
    (hag : ∀ t ∈ ats, Nice B 19 t ∧ t.dep ≤ 4) (hbs : ∀ x ∈ body, x.atom.sz ≤ 1000) (hl1 : 0 ≤ left) (hl2 : left ≤ 1000000) :
    Calls Try.prog 79 #[.pointer (some ⟨W, 0, none⟩), vb, va] w fun e w' => ∃ vo ok left', e = .returned (.tuple #[vo, .bool ok]) ∧
      (ok = true → ∃ outs, SlW (fun b => p b ∨ w.heap.size ≤ b) w' vo outs ∧ outs.length ≤ 5001 ∧ GoodW B 100000 outs) ∧ Blk w' W 106 #[.int .i64 left'] ∧ (ok = true → 0 ≤ left') ∧ left' ≤ left ∧ Ch [W] w w' := by
  obtain ⟨a1, c1, rfl, hlc1, hm1⟩ := hb.form
  obtain ⟨a2, c2, rfl, hlc2, hm2⟩ := ha.form
  unfold maxLen at hm1 hm2
  have hWl := hW.lt
  obtain ⟨q, hq⟩ : ∃ q : Nat → Prop, q = fun b => p b ∨ w.heap.size ≤ b := ⟨_, rfl⟩
  have HQ : Hid (∀ b, q b ↔ p b ∨ w.heap.size ≤ b) := fun b => by rw [hq]
  have HQW : Hid (∀ b, q b → b ≠ W) := fun b hb => by
    rcases (HQ.out b).1 hb with h | h
    · exact hp b h
    · omega
  have HPW := Lib.hid hp; clear hp
  have HPW' := Lib.hid hp'; clear hp'
  have HAG := Lib.hid hag; clear hag
  have HBS := Lib.hid hbs; clear hbs
  have hcA : Ch [W] w (w.alloc (.cells #[.slice none 0 0] 115)) := (Ch.refl _ _).alloc _
  have hWA := hW.alloc (.cells #[.slice none 0 0] 115)
  have hO0 : SlW q (w.alloc (.cells #[.slice none 0 0] 115)) (.slice (some ⟨w.heap.size, 0, none⟩) 1 1) [[]] :=
    ⟨_, (Sl.one w 1 115 [.slice none 0 0] rfl (by simp [Value.oneCell'])).weak (fun b _ hb => by rw [HQ.out]; exact .inr (by omega)), rfl, fun i cs x h4 h5 => by
      cases i with
      | zero => simp at h4 h5; subst h4 h5; exact ⟨_, rfl, SlPr.nil _ _⟩
      | succ i => simp at h4⟩
  rw [← hq]
  clear hq
  go_enter Try.func79, Try.ntmps79
  go_wp2
  generalize (w.alloc (.cells #[.slice none 0 0] 115)) = wA at *
  go_loopw [8, 19] (fun ov i wr => ∃ (k : Nat) (outs : List (List Pr)) (lf : Int), k ≤ body.length ∧ i = .int .i64 k ∧ Ch [W] w wr ∧ Blk wr W 106 #[.int .i64 lf] ∧ 0 ≤ lf ∧ lf ≤ left ∧ SlW q wr ov outs ∧ outs.length ≤ 5001 ∧ Hid (GoodW B (1000 * k) outs)) (fun _ i _ => body.length - (intOf i).toNat)
  case atStart => exact ⟨0, [[]], left, Nat.zero_le _, rfl, hcA, hWA, hl1, Int.le_refl _, hO0, by simp, fun s hs => by rw [List.mem_singleton] at hs; subst hs; exact ⟨fun x hx => (nomatch hx), by simp⟩⟩
  case round =>
    obtain ⟨k, outs, lf, hk, rfl, hB, hWr, hf1, hf2, hO, hol, HG⟩ := hrel
    obtain ⟨ao, co, rfl, hlo, hmo⟩ := hO.form
    unfold maxLen at hmo
    by_cases hlt : k < body.length
    · obtain ⟨b, o, a3, c3, rfl, hpb, k0, k1, k2, hT⟩ := (hb.ch hB (by intro b _ h; simpa using HPW.out b h)).at_ hlt
      have hxs := HBS.out _ (List.getElem_mem hlt)
      generalize body[k] = x at *
      obtain ⟨xnt, xat⟩ := x
      simp only at k0 k1 k2 hT hxs
      have hcB : Ch [] wr (wr.alloc (.cells #[.string xat.name, .slice a3 xat.args.length c3] 52)) := (Ch.refl _ _).alloc _
      have hbx := Blk.new wr 52 #[.string xat.name, .slice a3 xat.args.length c3]
      have x0 := hbx.cell 0
      have x1 := hbx.cell 1
      have k0' := cell_ch k0 hcB (by simp)
      have hskip : xnt = true ∨ xat.name = dis ∨ (xnt = false ∧ xat.name ≠ dis) := by
        cases xnt
        · by_cases hd : xat.name = dis
          · exact .inr (.inl hd)
          · exact .inr (.inr ⟨rfl, hd⟩)
        · exact .inl rfl
      by_cases hnd : xnt = false ∧ xat.name ≠ dis
      · obtain ⟨rfl, hnd2⟩ := hnd
        have hq1 : (xat.name.toList == [100, 105, 115, 116, 105, 110, 99, 116]) = false := by rw [dis_eq]; simpa using hnd2
        clear hskip hnd2
        go_wp2
        have hBA := hB.alloc (.cells #[.string xat.name, .slice a3 xat.args.length c3] 52)
        have hWA2 := hWr.alloc (.cells #[.string xat.name, .slice a3 xat.args.length c3] 52)
        have hOA := hO.chq (q := q) hcB (fun b _ hb => ⟨by simp, hb⟩)
        have hw10 := hB.size
        have hszB : (wr.alloc (.cells #[.string xat.name, .slice a3 xat.args.length c3] 52)).heap.size = wr.heap.size + 1 := by simp
        have hTB := hT.ch0 hcB
        have haB : SlT2 p' p (wr.alloc (.cells #[.string xat.name, .slice a3 xat.args.length c3] 52)) (.slice a2 ats.length c2) ats := ha.ch hBA (by intro b _ h; simpa using HPW'.out b h) (by intro b _ h; simpa using HPW.out b h)
        generalize (wr.alloc (.cells #[.string xat.name, .slice a3 xat.args.length c3] 52)) = wB at *
        clear hB hWr hO hcB k0 k1 k2 k0' hT x0 x1
        generalize wr.heap.size = b10 at *
        have hbW : b10 ≠ W := by omega
        obtain ⟨p2, hp2⟩ : ∃ p2 : Nat → Prop, p2 = fun b => q b ∧ b < b10 + 1 := ⟨_, rfl⟩
        have HP2 : Hid (∀ b, p2 b ↔ q b ∧ b < b10 + 1) := fun b => by rw [hp2]
        clear hp2
        have hpp : ∀ b, b < wB.heap.size → p b → p2 b := fun b hb h => (HP2.out b).2 ⟨(HQ.out b).2 (.inl h), by omega⟩
        have hTB2 := hTB.weak (q := p2) hpp
        have haB2 : SlT2 p' p2 wB (.slice a2 ats.length c2) ats := haB.imp (Nat.le_refl _) (fun b _ h => ⟨h, rfl⟩) (fun b hb h => ⟨hpp b hb h, rfl⟩)
        have hOA2 := hOA.chq (q := p2) (Ch.refl [] _) (fun b hb h => ⟨by simp, (HP2.out b).2 ⟨h, by omega⟩⟩)
        clear hpp haB hTB
        have hp2W : ∀ b, p2 b → b ∉ [W] := fun b h => by simpa using HQW.out b ((HP2.out b).1 h).1
        have HP2W := Lib.hid hp2W; clear hp2W
        have hqc : ∀ wz, Ch [W] wB wz → SlT2 p' p2 wz (.slice a2 ats.length c2) ats := fun wz hz => haB2.ch hz (fun b _ h => by simpa using HPW'.out b h) (fun b _ h => HP2W.out b h)
        have HQC := Lib.hid hqc; clear hqc
        go_loopw [11, 39] (fun nv i wq => ∃ (j : Nat) (nx : List (List Pr)) (lf' : Int), j ≤ outs.length ∧ i = .int .i64 j ∧ Ch [W] wB wq ∧ Blk wq W 106 #[.int .i64 lf'] ∧ 0 ≤ lf' ∧ lf' ≤ left ∧ OwnW q wq (b10 + 1) nv nx ∧ nx.length ≤ 5000 ∧ Hid (GoodW B (1000 * (k + 1)) nx)) (fun _ i _ => outs.length - (intOf i).toNat)
        case atStart => exact ⟨0, [], lf, Nat.zero_le _, rfl, Ch.refl _ _, hWA2, hf1, hf2, OwnW.nil _ _ _, by simp, fun s hs => (nomatch hs)⟩
        case round =>
          obtain ⟨j, nx, lf', hj, rfl, hBq, hWq, hg1, hg2, hN, hnl, HGN⟩ := hrel
          by_cases hltj : j < outs.length
          · obtain ⟨bo, oo, a5, c5, rfl, hpo, kO, sO⟩ := hOA2.at_ hltj
            have HGS := Lib.hid (HG.out _ (List.getElem_mem hltj))
            generalize outs[j] = s at *
            obtain ⟨w5, rfl⟩ : ∃ w5 : World, w5 = wr := ⟨_, rfl⟩
            go_wp2
            go_loopw [11, 44] (fun nv i wz => ∃ (m : Nat) (nx : List (List Pr)) (lf' : Int), m ≤ ats.length ∧ i = .int .i64 m ∧ Ch [W] wB wz ∧ Blk wz W 106 #[.int .i64 lf'] ∧ 0 ≤ lf' ∧ lf' ≤ left ∧ OwnW q wz (b10 + 1) nv nx ∧ nx.length ≤ 5000 ∧ Hid (GoodW B (1000 * (k + 1)) nx)) (fun _ i _ => ats.length - (intOf i).toNat)
            case atStart => exact ⟨0, nx, lf', Nat.zero_le _, rfl, hBq, hWq, hg1, hg2, hN, hnl, HGN⟩
            case round =>
              obtain ⟨m, ny, lg, hm, rfl, hBz, hWz, hh1, hh2, hNz, hyl, HGY⟩ := hrel
              have hBzz := hBz
              by_cases hltm : m < ats.length
              · obtain ⟨bt, ot, a6, c6, rfl, hpt, t0, t1, hTt⟩ := (HQC.out _ hBzz).at_ hltm
                have HGT := Lib.hid (HAG.out _ (List.getElem_mem hltm))
                have hbz := hbx.ch hBzz (by simpa using hbW)
                have y0 := hbz.cell 0
                have y1 := hbz.cell 1
                generalize ats[m] = t at *
                have T0 := Later.cell t0
                have T1 := Later.cell t1
                have Y0 := Later.cell y0
                have Y1 := Later.cell y1
                by_cases hmt : t.name = xat.name ∧ t.args.length = xat.args.length
                · have hq2 : (t.name.toList == xat.name.toList) = true := by rw [beqS]; simpa using hmt.1
                  have hq3 : ((t.args.length : Int) != (xat.args.length : Int)) = false := by simp [hmt.2]
                  have hgood := pBound_atom B 19 3 xat t s HGS.out.1 HGT.out.1 HGT.out.2 hmt.2.symm (by decide)
                  have hblen := pBound_len xat t s
                  have hslen := HGS.out.2
                  clear hmt
                  go_wp2
                  refine wp_region_later (by kernel_rfl) (lexB_of (by kernel_rfl)) ?_
                  repeat (go_big_quiet_step (fail))
                  refine wpQuiet_nil ?_
                  intro w7 hw7
                  have hW7 := hWz.ch hw7 (by simp)
                  have v0 := hW7.cell 0
                  have vf := hW7.frozen 0
                  have hcS : Ch [W] w7 (w7.setCell ⟨W, 0, none⟩ (.int .i64 (lg - 1))) := (Ch.refl _ _).set (by simp) _
                  have hc8 : Ch [W] wr (w7.setCell ⟨W, 0, none⟩ (.int .i64 (lg - 1))) := hw7.of_nil.trans hcS
                  have hW8 : Blk (w7.setCell ⟨W, 0, none⟩ (.int .i64 (lg - 1))) W 106 #[.int .i64 (lg - 1)] := hW7.set_ 0 _
                  have hB8 := hBzz.trans hc8
                  have hk0 := (cell_ch kO (hBz.trans hc8) (by simpa using HQW.out bo ((HP2.out bo).1 hpo.1).1))
                  have hbz8 := hbz.ch hc8 (by simpa using hbW)
                  have hN8 := hNz.ch hc8 (by intro z hz; simp at hz; subst hz; exact .inl ⟨fun h => HQW.out _ h rfl, by omega⟩)
                  have ht0 := cell_ch t0 hc8 (by simpa using HPW'.out bt hpt.1)
                  have ht1 := cell_ch t1 hc8 (by simpa using HPW'.out bt hpt.1)
                  have hTt8 := hTt.ch hc8 (fun b _ h => HP2W.out b h)
                  have hTB8 := hTB2.ch hB8 (fun b _ h => HP2W.out b h)
                  have sO8 := sO.chq (q := p2) (hBz.trans hc8) (fun b _ h => ⟨HP2W.out b h, h⟩)
                  have hs78 : wr.heap.size ≤ (w7.setCell ⟨W, 0, none⟩ (.int .i64 (lg - 1))).heap.size := hc8.size
                  clear T0 T1 Y0 Y1
                  go_wp2
                  clear v0 vf
                  generalize (w7.setCell ⟨W, 0, none⟩ (.int .i64 (lg - 1))) = w8 at *
                  have r0 := hbz8.cell 0
                  have r1 := hbz8.cell 1
                  have hcall := boundC_all _ xat t s (Nat.le_refl _) (by omega) p2 _ _ _ w8.drew (hTB8.ch0 ((Ch.refl [] w8).drew)) (hTt8.ch0 ((Ch.refl [] w8).drew)) (sO8.ch0 ((Ch.refl [] w8).drew))
                  obtain ⟨s9, q9, hpe⟩ : ∃ s9 q9, pBound xat t s = (s9, q9) := ⟨_, _, rfl⟩
                  rw [hpe] at hcall hgood hblen
                  simp only at hcall hgood hblen
                  clear hpe
                  go_region_held3 (fun w' => w'.cell? ⟨b10, 0, none⟩ = some (.string xat.name) ∧ w'.cell? ⟨b10, 1, none⟩ = some (.slice a3 xat.args.length c3) ∧ w'.cell? ⟨bt, ot + m * 2, none⟩ = some (.string t.name) ∧ w'.cell? ⟨bt, ot + m * 2 + 1, none⟩ = some (.slice a6 t.args.length c6) ∧ w'.cell? ⟨bo, oo + j, none⟩ = some (.slice a5 s.length c5)) (go_keep) (first
                    | (go_at_call 95; refine hcall.mono ?_; rintro e w9 ⟨u9, rfl, hu9, hc9⟩; clear hcall; replace hc9 := ((Ch.refl [] w8).drew).trans hc9; have z0 := cell_ch r0 hc9 (by simp); have z1 := cell_ch r1 hc9 (by simp); have z2 := cell_ch ht0 hc9 (by simp); have z3 := cell_ch ht1 hc9 (by simp); have z4 := cell_ch hk0 hc9 (by simp)))
                  have hW9 := hW8.ch hc9 (by simp)
                  have hN9 := hN8.ch hc9 (by simp)
                  have v9 := hW9.cell 0
                  obtain ⟨a9, c9, rfl, hl9, hm9⟩ := hu9.form
                  obtain ⟨css, hown, hcl, hli⟩ := hN9
                  obtain ⟨an, cn, rfl⟩ := hown.form'
                  have hlv : ∀ b, (Value.slice an css.length cn).ownBlock = some b → b10 + 1 ≤ b ∧ b < wr.heap.size := fun b hb => by
                    obtain ⟨css0, hown0, _, _⟩ := hNz
                    exact hown0.lt hb
                  have HLV := Lib.hid hlv; clear hlv
                  have hcl2 : css.length ≤ 5000 := by omega
                  have HCL := Lib.hid hcl; clear hcl
                  have HLI := Lib.hid hli; clear hli
                  have hsz9 := hc9.size
                  cases q9 with
                  | false =>
                    by_cases hneg : lg - 1 < 0
                    · go_wp2
                      go_ret2
                      exact ⟨_, false, lg - 1, rfl, fun h => (nomatch h), hW9, fun h => (nomatch h), by omega, (hBA.trans hB8).step hc9 (by simp)⟩
                    · go_wp2
                      go_roundw
                      case rel => exact ⟨m + 1, ny, lg - 1, by omega, by go_num, (hBz.trans hc8).step hc9 (by simp), hW9, by omega, by omega, ⟨css, hown, HCL.out, HLI.out⟩, hyl, HGY⟩
                      case measure => simp [intOf]; omega
                  | true =>
                    have hlv10 : ∀ b, b ∈ (Value.slice an css.length cn).ownBlock.toList → b10 + 1 ≤ b := by
                      intro b hb
                      cases hvo : (Value.slice an css.length cn).ownBlock with
                      | none => rw [hvo] at hb; cases hb
                      | some g6 => rw [hvo] at hb; simp at hb; subst hb; exact (HLV.out b hvo).1
                    have HLT := Lib.hid hlv10; clear hlv10
                    by_cases hneg : lg - 1 < 0
                    all_goals by_cases hbig : 5000 < css.length + 1
                    all_goals
                      go_wp2_with (at_builtin; refine wpList_append_sl rfl _ _ _ rfl elPP (base := b10 + 1) (v := .slice an css.length cn) (css := css) rfl (hown.ch ((Ch.refl [] w9).alloc (.cells #[.slice a9 s9.length c9] 115)) (by simp)) rfl (Sl.one w9 1 115 [.slice a9 s9.length c9] rfl (by simp [Value.oneCell'])) (by simp; omega) (by have := hBz.size; have := hBq.size; simp; omega) ?_; intro v10 w10 ho10 hc10 hat10 hn10; clear hn10; obtain ⟨a10, c10, rfl⟩ := ho10.form'; have hW10 := (hW9.alloc (.cells #[.slice a9 s9.length c9] 115)).ch hc10 (fun hm => by have := HLT.out _ hm; omega); have v11 := hW10.cell 0)
                      first
                        | (have hcx : Ch [W] wB w10 := ((hBz.trans hc8).step (hc9.alloc (.cells #[.slice a9 s9.length c9] 115)) (by simp)).step hc10 (fun z hz => .inr (by have := HLT.out z hz; omega))
                           have hliW : ∀ (i : Nat) (cs : List Value) (x : List Pr), css[i]? = some cs → ny[i]? = some x → PwR (fun b => (q b ∨ b10 + 1 ≤ b) ∧ (Value.slice an css.length cn).ownBlock ≠ some b) (w9.alloc (.cells #[.slice a9 s9.length c9] 115)) x cs := fun i cs x h4 h5 => imp_pw _ _ _ _ _ _ (by simp) (fun b hb hp => ⟨hp, Below.heap_alloc _ _ _ hb⟩) (HLI.out i cs x h4 h5)
                           have hsW : SlPr (fun b => (q b ∨ b10 + 1 ≤ b) ∧ (Value.slice an css.length cn).ownBlock ≠ some b) (w9.alloc (.cells #[.slice a9 s9.length c9] 115)) (.slice a9 s9.length c9) s9 := (hu9.ch0 ((Ch.refl _ _).alloc _)).weak fun b _ hb => by
                             rcases hb with hb | hb
                             · have hb2 := (HP2.out b).1 hb
                               exact ⟨.inl hb2.1, fun e => by have := (HLV.out b e).1; omega⟩
                             · have hb3 : w8.heap.size ≤ b := hb
                               exact ⟨.inr (by have := hBz.size; have := hBq.size; omega), fun e => by have := (HLV.out b e).2; omega⟩
                           have hNF := OwnW.add HCL.out hliW hsW hc10 hat10 ho10
                           have hlF : (css ++ [[Value.slice a9 s9.length c9]]).length = css.length + 1 := by simp
                           rw [hlF] at hNF
                           go_roundw
                           case rel => exact ⟨m + 1, ny ++ [s9], lg - 1, by omega, by go_num, hcx, hW10, by omega, by omega, hNF, by have := HCL.out; simp; omega, HGY.out.add ⟨hgood, by omega⟩⟩
                           case measure => simp [intOf]; omega)
                        | (go_ret2
                           first
                             | exact ⟨_, false, lg - 1, rfl, fun h => (nomatch h), hW10, fun h => (nomatch h), by omega, ((hBA.trans hB8).step (hc9.alloc (.cells #[.slice a9 s9.length c9] 115)) (by simp)).step hc10 (fun z hz => .inr (by have := HLT.out z hz; omega))⟩
                             | exact ⟨_, .inl ⟨rfl, lg - 1, hW10, by omega, ((hBA.trans hB8).step (hc9.alloc (.cells #[.slice a9 s9.length c9] 115)) (by simp)).step hc10 (fun z hz => .inr (by have := HLT.out z hz; omega))⟩⟩)
                · by_cases hnn : t.name = xat.name
                  · have hq2 : (t.name.toList == xat.name.toList) = true := by rw [beqS]; simpa using hnn
                    have hq3 : ((t.args.length : Int) != (xat.args.length : Int)) = true := by simp; intro e; exact hmt ⟨hnn, by omega⟩
                    clear hmt hnn
                    go_wp2
                    refine wp_region_later (by kernel_rfl) (lexB_of (by kernel_rfl)) ?_
                    repeat (go_big_quiet_step (fail))
                    refine wpQuiet_nil ?_
                    intro w7 hw7
                    go_wp2
                    go_roundw
                    case rel => exact ⟨m + 1, ny, lg, by omega, by go_num, hBz.trans hw7.of_nil, hWz.ch hw7 (by simp), hh1, hh2, hNz.ch hw7 (by simp), hyl, HGY⟩
                    case measure => simp [intOf]; omega
                  · have hq2 : (t.name.toList == xat.name.toList) = false := by rw [beqS]; simpa using hnn
                    clear hmt hnn
                    go_wp2
                    refine wp_region_later (by kernel_rfl) (lexB_of (by kernel_rfl)) ?_
                    repeat (go_big_quiet_step (fail))
                    refine wpQuiet_nil ?_
                    intro w7 hw7
                    go_wp2
                    go_roundw
                    case rel => exact ⟨m + 1, ny, lg, by omega, by go_num, hBz.trans hw7.of_nil, hWz.ch hw7 (by simp), hh1, hh2, hNz.ch hw7 (by simp), hyl, HGY⟩
                    case measure => simp [intOf]; omega
              · go_wp2
                go_roundw
                case rel => exact ⟨j + 1, ny, lg, by omega, by go_num, hBzz, hWz, hh1, hh2, hNz, hyl, HGY⟩
                case measure => simp [intOf]; omega
          · have hNs : SlW q wr u11 nx := hN.slw.chq (Ch.refl [] _) (fun b _ hb => ⟨by simp, by
              rcases hb with hb | hb
              · exact hb
              · rw [HQ.out]; exact .inr (by omega)⟩)
            go_wp2
            go_roundw
            case rel => exact ⟨k + 1, nx, lf', by omega, by go_num, hBA.trans hBq, hWq, hg1, hg2, hNs, by omega, HGN⟩
            case measure => simp [intOf]; omega
      · have hBA := hB.alloc (.cells #[.string xat.name, .slice a3 xat.args.length c3] 52)
        have hWA2 := hWr.alloc (.cells #[.string xat.name, .slice a3 xat.args.length c3] 52)
        have hOA := hO.chq (q := q) hcB (fun b _ hb => ⟨by simp, hb⟩)
        have HG2 : Hid (GoodW B (1000 * (k + 1)) outs) := fun s hs => ⟨(HG.out s hs).1, by have := (HG.out s hs).2; omega⟩
        cases xnt with
        | true =>
          clear hskip hnd
          go_wp2
          go_roundw
          case rel => exact ⟨k + 1, outs, lf, by omega, by go_num, hBA, hWA2, hf1, hf2, hOA, hol, HG2⟩
          case measure => simp [intOf]; omega
        | false =>
          have hd : xat.name = dis := Classical.byContradiction fun h => hnd ⟨rfl, h⟩
          have hq1 : (xat.name.toList == [100, 105, 115, 116, 105, 110, 99, 116]) = true := by rw [dis_eq]; simpa using hd
          clear hskip hnd hd
          go_wp2
          go_roundw
          case rel => exact ⟨k + 1, outs, lf, by omega, by go_num, hBA, hWA2, hf1, hf2, hOA, hol, HG2⟩
          case measure => simp [intOf]; omega
    · go_wp2
      go_ret2
      exact ⟨_, true, lf, rfl, fun _ => ⟨outs, hO, hol, fun s hs => ⟨(HG.out s hs).1, by have := (HG.out s hs).2; omega⟩⟩, hWr, fun _ => hf1, hf2, hB⟩
end
end Go.Proofs.Ytbjdikeaolibpaa
