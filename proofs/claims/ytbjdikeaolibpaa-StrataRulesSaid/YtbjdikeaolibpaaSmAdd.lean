/-
  The contract of the closure in plain.Light that adds an atom.
-/
import Derived.Test.YtbjdikeaolibpaaSmWays
import Derived.Laws.OwnMore
namespace Go.Proofs.Ytbjdikeaolibpaa
open Go.RowKit

theorem Own.set2 {w : World} {base : Nat} {e : TypeId} {g c : Nat} {css : List (List Value)} {x y a b : Value} (h : Own w base e 2 (.slice (some ⟨g, 0, none⟩) (css.length + 1) c) (css ++ [[x, y]])) (ha : a.oneCell' = true) (hb : b.oneCell' = true) :
    Own ((w.setCell ⟨g, css.length * 2, none⟩ a).setCell ⟨g, css.length * 2 + 1, none⟩ b) base e 2 (.slice (some ⟨g, 0, none⟩) (css.length + 1) c) (css ++ [[a, b]]) := by
  have hk : ∀ cs ∈ css, cs.length = 2 := fun cs hcs => (h.2 cs (by simp [hcs])).1
  have hfl := flat_len css 2 hk
  have h0 := h.1
  have hl : (css ++ [[x, y]]).length = css.length + 1 := by simp
  rw [hl] at h0
  have h1 := (h0.stored (css.length * 2) a).1
  have h2 := (h1.stored (css.length * 2 + 1) b).1
  have e1 : (((css ++ [[x, y]]).flatten).set (css.length * 2) a).set (css.length * 2 + 1) b = (css ++ [[a, b]]).flatten := by
    simp only [List.flatten_append, List.flatten_cons, List.flatten_nil, List.append_nil]
    rw [List.set_append_right (h := by omega), List.set_append_right (h := by omega), hfl]
    simp
  rw [e1] at h2
  refine ⟨by simpa using h2, fun cs hcs => ?_⟩
  rcases List.mem_append.1 hcs with h3 | h3
  · exact h.2 cs (by simp [h3])
  · rw [List.mem_singleton] at h3
    subst h3
    exact ⟨rfl, by simp [ha, hb]⟩

theorem Own.form1 {w : World} {base : Nat} {e : TypeId} {k : Nat} {v : Value} {css : List (List Value)} {x : List Value} (h : Own w base e k v (css ++ [x])) : ∃ g c, v = .slice (some ⟨g, 0, none⟩) (css.length + 1) c ∧ base ≤ g ∧ g < w.heap.size ∧ (∀ j, w.frozen? ⟨g, j, none⟩ = false) ∧ ∀ j u, x[j]? = some u → w.cell? ⟨g, css.length * k + j, none⟩ = some u := by
  rcases h.form with ⟨_, h1⟩ | ⟨g, c, rfl, h2, h3⟩
  · simp at h1
  · have h4 := h.1
    have hl : (css ++ [x]).length = css.length + 1 := by simp
    have h5 := h.sl
    rw [hl] at h4 h5 ⊢
    refine ⟨g, c, rfl, h2, h3, fun j => h4.frozenAt j, fun j u hj => ?_⟩
    obtain ⟨b, o, e1, _, h6⟩ := Sl.at_ h5 (i := css.length) (cs := x) (by simp)
    injection e1 with e1
    injection e1 with e1 e2
    subst e1 e2
    have := h6 j u hj
    rwa [Nat.zero_add] at this
theorem not_own {w : World} {base : Nat} {e : TypeId} {k : Nat} {v : Value} {css : List (List Value)} (h : Own w base e k v css) {b : Nat} (hb : b < base) : b ∉ v.ownBlock.toList := by
  intro hm
  cases hv : v.ownBlock with
  | none => rw [hv] at hm; cases hm
  | some g => rw [hv] at hm; simp at hm; subst hm; have := (h.lt hv).1; omega
theorem own_new {w : World} {base : Nat} {e : TypeId} {k : Nat} {v : Value} {css : List (List Value)} (h : Own w base e k v css) {b : Nat} (hb : w.heap.size ≤ b) : b ∉ v.ownBlock.toList := by
  intro hm
  cases hv : v.ownBlock with
  | none => rw [hv] at hm; cases hm
  | some g => rw [hv] at hm; simp at hm; subst hm; have := (h.lt hv).2; omega

/-- the closure's variables: the map of known keys, the row of atoms -/
structure AddAt (w : World) (base : Nat) (L : Nat → Prop) (K A M : Nat) (kv : List (ByteArray × Value)) (av : Value) (ats : List Tm) : Prop where
  k : Blk w K 85 #[.map (some M)]
  a : Blk w A 50 #[av]
  m : MapAt w encB M kv
  t : ∀ x ∈ kv, x.2 = .bool true
  o : OwnT3 L w base av ats
/-- where the closure's variables lie -/
structure AddOk (base : Nat) (L : Nat → Prop) (K A M : Nat) : Prop where
  kb : K < base
  ab : A < base
  mb : M < base
  ka : K ≠ A
  km : K ≠ M
  am : A ≠ M
  kl : ¬ L K
  al : ¬ L A
  ml : ¬ L M
theorem AddAt.ch0 {w w' : World} {base : Nat} {L : Nat → Prop} {K A M : Nat} {kv : List (ByteArray × Value)} {av : Value} {ats : List Tm} (h : AddAt w base L K A M kv av ats) (hc : Ch [] w w') : AddAt w' base L K A M kv av ats :=
  ⟨h.k.ch hc (by simp), h.a.ch hc (by simp), h.m.ch hc (by simp), h.t, h.o.ch hc (by simp)⟩
theorem AddAt.ch {S : List Nat} {w w' : World} {base : Nat} {L : Nat → Prop} {K A M : Nat} {kv : List (ByteArray × Value)} {av : Value} {ats : List Tm} (h : AddAt w base L K A M kv av ats) (hc : Ch S w w') (hK : K ∉ S) (hA : A ∉ S) (hM : M ∉ S) (hS : ∀ x ∈ S, (¬ L x ∧ x < base) ∨ w.heap.size ≤ x) : AddAt w' base L K A M kv av ats :=
  ⟨h.k.ch hc hK, h.a.ch hc hA, h.m.ch hc hM, h.t, h.o.ch hc hS⟩
theorem known_bool {kv : List (ByteArray × Value)} (h : ∀ x ∈ kv, x.2 = .bool true) (s : ByteArray) : ∃ q, (aget kv s).getD (.bool false) = .bool q := by
  cases hg : aget kv s with
  | none => exact ⟨false, rfl⟩
  | some v => obtain ⟨j, hj⟩ := aget_idx hg; exact ⟨true, by rw [Option.getD_some]; exact h _ (List.mem_of_getElem? hj)⟩
theorem aset_bool {kv : List (ByteArray × Value)} (h : ∀ x ∈ kv, x.2 = .bool true) (s : ByteArray) : ∀ x ∈ aset kv s (.bool true), x.2 = .bool true := by
  induction kv with
  | nil => intro x hx; simp [aset] at hx; subst hx; rfl
  | cons y r ih =>
    intro x hx
    simp only [aset] at hx
    split at hx
    · rcases List.mem_cons.1 hx with rfl | hx
      · rfl
      · exact h x (by simp [hx])
    · rcases List.mem_cons.1 hx with rfl | hx
      · exact h _ (by simp)
      · exact ih (fun z hz => h z (by simp [hz])) x hx

theorem setCell_swap (w : World) {a b : Addr} (h : a.block ≠ b.block) (u v : Value) : (w.setCell a u).setCell b v = (w.setCell b v).setCell a u := by
  unfold World.setCell
  simp only [World.mk.injEq, and_true]
  refine Array.ext_getElem? fun i => ?_
  simp only [Array.getElem?_modify]
  by_cases h1 : b.block = i <;> by_cases h2 : a.block = i <;> simp [h1, h2]
  exact absurd (h2.trans h1.symm) h
theorem add_fin {base K A M : Nat} {L : Nat → Prop} {w w3 w4 W : World} {kv : List (ByteArray × Value)} {a5 : Option Addr} {c5 g4 c4 : Nat} {css : List (List Value)} {ats : List Tm} {t : Tm} {va : Value} (hok : AddOk base L K A M)
    (hK : Blk w3 K 85 #[.map (some M)]) (hA : Blk w3 A 50 #[.slice a5 css.length c5]) (hm : MapAt w3 encB M kv) (ht : ∀ x ∈ kv, x.2 = .bool true) (hown : Own w3 base 52 2 (.slice a5 css.length c5) css)
    (htms : TmsR (fun b => (L b ∨ base ≤ b) ∧ (Value.slice a5 css.length c5).ownBlock ≠ some b) w3 ats css) (hT : SlT (fun b => (L b ∨ base ≤ b) ∧ (Value.slice a5 css.length c5).ownBlock ≠ some b) w3 va t.args) (hva : va.oneCell' = true) (hd : t.dep ≤ 4)
    (hc4 : Ch (Value.slice a5 css.length c5).ownBlock.toList ((w3.alloc (.cells #[.string ⟨#[]⟩, .slice none 0 0] 52)).drew) w4)
    (ho4 : Own w4 base 52 2 (.slice (some ⟨g4, 0, none⟩) (css.length + 1) c4) (css ++ [[.string ⟨#[]⟩, .slice none 0 0]]))
    (hat : (Value.slice (some ⟨g4, 0, none⟩) (css.length + 1) c4).ownBlock = (Value.slice a5 css.length c5).ownBlock ∨ (Value.slice (some ⟨g4, 0, none⟩) (css.length + 1) c4).ownBlock = some ((w3.alloc (.cells #[.string ⟨#[]⟩, .slice none 0 0] 52)).drew).heap.size)
    (hc03 : Ch [M] w w3) (_hbs : base ≤ w.heap.size)
    (hW : W = (((w4.setCell ⟨g4, css.length * 2, none⟩ (.string t.name)).setCell ⟨g4, css.length * 2 + 1, none⟩ va).setCell ⟨A, 0, none⟩ (.slice (some ⟨g4, 0, none⟩) (css.length + 1) c4)) ∨
      W = (((w4.setCell ⟨A, 0, none⟩ (.slice (some ⟨g4, 0, none⟩) (css.length + 1) c4)).setCell ⟨g4, css.length * 2, none⟩ (.string t.name)).setCell ⟨g4, css.length * 2 + 1, none⟩ va)) :
    ∃ kv' av' ats', AddAt W base L K A M kv' av' ats' ∧ (ats' = ats ∨ (ats' = ats ++ [t] ∧ t.dep ≤ 4)) ∧ (av'.ownBlock = (Value.slice a5 css.length c5).ownBlock ∨ ∃ g, av'.ownBlock = some g ∧ w.heap.size ≤ g) ∧ Ch (A :: M :: (Value.slice a5 css.length c5).ownBlock.toList) w W := by
  have hg4 : base ≤ g4 := (ho4.lt (b := g4) rfl).1
  have hAg : A ≠ g4 := by have := hok.ab; omega
  have hW1 : W = (((w4.setCell ⟨g4, css.length * 2, none⟩ (.string t.name)).setCell ⟨g4, css.length * 2 + 1, none⟩ va).setCell ⟨A, 0, none⟩ (.slice (some ⟨g4, 0, none⟩) (css.length + 1) c4)) := by
    rcases hW with h | h
    · exact h
    · rw [h, setCell_swap w4 (a := ⟨A, 0, none⟩) (b := ⟨g4, css.length * 2, none⟩) hAg, setCell_swap _ (a := ⟨A, 0, none⟩) (b := ⟨g4, css.length * 2 + 1, none⟩) hAg]
  subst hW1
  clear hW
  have hWA : Ch [] w3 ((w3.alloc (.cells #[.string ⟨#[]⟩, .slice none 0 0] 52)).drew) := ((Ch.refl [] w3).alloc _).drew
  have hws : w3.heap.size ≤ ((w3.alloc (.cells #[.string ⟨#[]⟩, .slice none 0 0] 52)).drew).heap.size := hWA.size
  have hownA := hown.ch hWA (by simp)
  generalize ((w3.alloc (.cells #[.string ⟨#[]⟩, .slice none 0 0] 52)).drew) = wZ at *
  have h03 := hc03.size
  have hgin : g4 ∈ (Value.slice a5 css.length c5).ownBlock.toList ∨ wZ.heap.size ≤ g4 := by
    rcases hat with h | h
    · exact .inl (by rw [← h]; simp [Value.ownBlock])
    · simp only [Value.ownBlock, Option.some.injEq] at h; exact .inr (by omega)
  have ho5 := ho4.set2 (a := .string t.name) (b := va) rfl hva
  have hc5 : Ch (Value.slice a5 css.length c5).ownBlock.toList wZ ((w4.setCell ⟨g4, css.length * 2, none⟩ (.string t.name)).setCell ⟨g4, css.length * 2 + 1, none⟩ va) := (hc4.set hgin _).set hgin _
  generalize ((w4.setCell ⟨g4, css.length * 2, none⟩ (.string t.name)).setCell ⟨g4, css.length * 2 + 1, none⟩ va) = w5 at *
  have htmsZ := TmsR.imp (q := fun b => (L b ∨ base ≤ b) ∧ (Value.slice a5 css.length c5).ownBlock ≠ some b) hWA.size (fun b hb hp => ⟨hp, hWA.block b hb (by simp)⟩) htms
  have hoT := OwnT3.add htmsZ (hT.ch0 hWA) hc5 hat ho5
  have hcS : Ch [A] w5 (w5.setCell ⟨A, 0, none⟩ (.slice (some ⟨g4, 0, none⟩) (css.length + 1) c4)) := (Ch.refl _ _).set (by simp) _
  have hno : ∀ b, b < base → b ∉ (Value.slice a5 css.length c5).ownBlock.toList := fun b hb => not_own hown hb
  have hA5 := (hA.ch hWA (by simp)).ch hc5 (hno _ hok.ab)
  refine ⟨kv, .slice (some ⟨g4, 0, none⟩) (css.length + 1) c4, ats ++ [t], ⟨?_, ?_, ?_, ht, ?_⟩, .inr ⟨rfl, hd⟩, ?_, ?_⟩
  · exact (((hK.ch hWA (by simp)).ch hc5 (hno _ hok.kb)).ch hcS (by simpa using hok.ka))
  · exact hA5.set_ 0 _
  · exact ((hm.ch hWA (by simp)).ch hc5 (hno _ hok.mb)).ch hcS (by simpa using Ne.symm hok.am)
  · exact hoT.ch hcS (by intro z hz; simp at hz; subst hz; exact .inl ⟨hok.al, hok.ab⟩)
  · rcases hat with h | h
    · exact .inl h
    · exact .inr ⟨_, h, by omega⟩
  · exact (((hc03.mono (by simp)).step hWA (by simp)).step hc5 (by intro x hx; exact .inl (by simp [hx]))).step hcS (by simp)

set_option maxRecDepth 100000 in
set_option maxHeartbeats 4000000 in
theorem add_ {base : Nat} {L : Nat → Prop} {K A M : Nat} {kv : List (ByteArray × Value)} {av : Value} {ats : List Tm} (t : Tm) (q : Nat → Prop) (v : Value) (w : World) (hok : AddOk base L K A M) (hD : AddAt w base L K A M kv av ats)
    (h : SlT q w v t.args) (hq : ∀ b, b < w.heap.size → q b → (L b ∨ base ≤ b) ∧ av.ownBlock ≠ some b) (hks : t.ksz ≤ 4611686018427387904) (hsz : t.sz ≤ 1000000000) (hal : ats.length ≤ 2000000) (hbs : base ≤ w.heap.size) :
    Calls Try.prog 76 #[.agg #[.string t.name, v], .pointer (some ⟨K, 0, none⟩), .pointer (some ⟨A, 0, none⟩)] w fun e w' => e = .returned (.tuple #[]) ∧ ∃ kv' av' ats', AddAt w' base L K A M kv' av' ats' ∧
      (ats' = ats ∨ (ats' = ats ++ [t] ∧ t.dep ≤ 4)) ∧ (av'.ownBlock = av.ownBlock ∨ ∃ g, av'.ownBlock = some g ∧ w.heap.size ≤ g) ∧ Ch (A :: M :: av.ownBlock.toList) w w' := by
  obtain ⟨a, c, rfl, hlc, hmx⟩ := h.form
  unfold maxLen at hmx
  obtain ⟨hK, hA, hM, hT, hO⟩ := hD
  have hdz := dep_le_sz t
  have hbx := Blk.new w 52 #[.string t.name, .slice a t.args.length c]
  have hcA : Ch [] w (w.alloc (.cells #[.string t.name, .slice a t.args.length c] 52)) := (Ch.refl _ _).alloc _
  obtain ⟨wA, hwA⟩ : ∃ wA, wA = (w.alloc (.cells #[.string t.name, .slice a t.args.length c] 52)) := ⟨_, rfl⟩
  rw [← hwA] at hbx hcA
  have b0 := hbx.cell 0
  have b1 := hbx.cell 1
  have hkey := key_ t.sz t (Nat.le_refl _) q (.slice a t.args.length c) wA (h.ch0 hcA) hks
  obtain ⟨kn, hkn⟩ := known_bool hT (pKey t)
  have hlv := fun wz hz => levels_ t.dep t (Nat.le_refl _) q (.slice a t.args.length c) wz hz (by omega)
  generalize pKey t = KY at *
  have HT := Lib.hid hT; clear hT
  have HQ := Lib.hid hq; clear hq
  have hKl := hK.lt
  have hAl := hA.lt
  have hMl := hM.lt
  have k0 := (hK.ch hcA (by simp)).cell 0
  have HKN := Lib.hid hkn; clear hkn
  obtain ⟨hok1, hok2, hok3, hok4, hok5, hok6, hok7, hok8, hok9⟩ := hok
  have HL7 := Lib.hid hok7
  have HL8 := Lib.hid hok8
  have HL9 := Lib.hid hok9
  clear hok7 hok8 hok9
  cases kn with
  | true =>
    go_enter Try.func76, Try.ntmps76
    go_wp2_with (rw [← hwA]; go_at_call 77; refine hkey.mono ?_; rintro e w1 ⟨rfl, hc1⟩; clear hkey; have z0 := (hK.ch (hcA.trans hc1) (by simp)).cell 0; have hlk := (hM.ch (hcA.trans hc1) (by simp)).look kS mS (zB w1) KY false; simp only [encB, HKN.out] at hlk)
    go_end0
    exact ⟨rfl, kv, av, ats, (AddAt.mk hK hA hM HT.out hO).ch0 (hcA.trans hc1), .inl rfl, .inl rfl, (hcA.trans hc1).of_nil⟩
  | false =>
    by_cases hd : t.dep ≤ 4
    · obtain ⟨css, hown, htms⟩ := hO
      have hcl := htms.len
      have hlvl : ∀ b, av.ownBlock = some b → base ≤ b ∧ b < w.heap.size := fun b hb => hown.lt hb
      have HLV := Lib.hid hlvl; clear hlvl
      go_enter Try.func76, Try.ntmps76
      go_wp2_with (first
        | (rw [← hwA]; go_at_call 77; refine hkey.mono ?_; rintro e w1 ⟨rfl, hc1⟩; clear hkey; have z0 := (hK.ch (hcA.trans hc1) (by simp)).cell 0; have hlk := (hM.ch (hcA.trans hc1) (by simp)).look kS mS (zB w1) KY false; simp only [encB, HKN.out] at hlk; have x0 := (hbx.ch hc1 (by simp)).cell 0; have x1 := (hbx.ch hc1 (by simp)).cell 1)
        | (go_at_call 78; refine (hlv _ (h.ch0 (hcA.trans hc1))).mono ?_; rintro e w2 ⟨rfl, hc2⟩; have y0 := (hK.ch ((hcA.trans hc1).trans hc2) (by simp)).cell 0)
        | (at_mapUpdate; refine wpl_upd rfl _ _ _ _ rfl kS mS rfl (b := M) (kv := kv) (hM.ch ((hcA.trans hc1).trans hc2) (by simp)) KY rfl (val := .bool true) rfl ?_; intro w3 hm3 hc3 hs3))
      clear hs3
      have hc02 : Ch [] w w2 := (hcA.trans hc1).trans hc2
      have hc13 : Ch [M] wA w3 := ((hc1.trans hc2).of_nil).trans hc3
      have hX3 : Blk w3 w.heap.size 52 #[.string t.name, .slice a t.args.length c] := hbx.ch hc13 (by simp; omega)
      have hA3 : Blk w3 A 50 #[av] := (hA.ch hc02 (by simp)).ch hc3 (by simpa using hok6)
      have hK3 : Blk w3 K 85 #[.map (some M)] := (hK.ch hc02 (by simp)).ch hc3 (by simpa using hok5)
      have hown3 : Own w3 base 52 2 av css := (hown.ch hc02 (by simp)).ch hc3 (fun b hb => by have := (HLV.out b hb).1; simp; omega)
      have hc03 : Ch [M] w w3 := (hc02.of_nil).trans hc3
      have hs03 := hc03.size
      have hT3 : SlT (fun b => (L b ∨ base ≤ b) ∧ av.ownBlock ≠ some b) w3 (.slice a t.args.length c) t.args := (h.weak (fun b hb h1 => HQ.out b hb h1)).ch hc03 (fun b _ hp => by simp; rintro rfl; rcases hp.1 with h1 | h1; exact HL9.out h1; omega)
      obtain ⟨a5, c5, hav⟩ := hown.form'
      have HAV := Lib.hid hav
      subst hav
      have a0 := hA3.cell 0
      have m0 := hX3.cell 0
      have m1 := hX3.cell 1
      have n0 := (hX3.alloc (.cells #[.string ⟨#[]⟩, .slice none 0 0] 52)).cell 0
      have n1 := (hX3.alloc (.cells #[.string ⟨#[]⟩, .slice none 0 0] 52)).cell 1
      have a1 := (hA3.alloc (.cells #[.string ⟨#[]⟩, .slice none 0 0] 52)).cell 0
      clear hlv z0 x0 x1 y0 k0 b0 b1 hlk
      have hWA : Ch [] w3 ((w3.alloc (.cells #[.string ⟨#[]⟩, .slice none 0 0] 52)).drew) := ((Ch.refl [] w3).alloc _).drew
      have HCL := Lib.hid hcl; clear hcl
      have htms3 := TmsR.imp (q := fun b => (L b ∨ base ≤ b) ∧ (Value.slice a5 css.length c5).ownBlock ≠ some b) hs03 (fun b hb hp => ⟨hp, hc03.block b hb (by simp; rintro rfl; rcases hp.1 with h1 | h1; exact HL9.out h1; omega)⟩) htms
      have hlt1 : (css.length : Int) < (css.length : Int) + 1 := by omega
      go_region_law (first
        | (refine step_append_sl rfl _ _ _ rfl elT (base := base) (v := .slice a5 css.length c5) (css := css) rfl (hown3.ch hWA (by simp)) rfl (Sl.one _ 2 52 [.string ⟨#[]⟩, .slice none 0 0] rfl (by simp [Value.oneCell'])) (by have := HCL.out; simp; omega) (by simp; omega) ?_; intro v4 w4 ho4 hc4 hat4 hn4; clear hn4; obtain ⟨g4, c4, rfl, hg4, hg4s, hfz4, hce4⟩ := ho4.form1; have e0 := hce4 0 _ rfl; have e1 := hce4 1 _ rfl; simp only [Nat.add_zero] at e0; have f0 := hfz4 (css.length * 2); have f1 := hfz4 (css.length * 2 + 1); have hA4 := (Blk.ch hA3 hWA (by simp)).ch hc4 (not_own hown3 hok2); have fA := hA4.frozen 0; have cA := hA4.cell 0; have hne : g4 ≠ A := (by omega)))
      all_goals
        go_end0
        exact ⟨rfl, add_fin ⟨hok1, hok2, hok3, hok4, hok5, hok6, HL7.out, HL8.out, HL9.out⟩ hK3 hA3 hm3 (aset_bool HT.out KY) hown3 htms3 hT3 rfl hd hc4 ho4 hat4 hc03 hbs (by first | exact .inl rfl | exact .inr rfl)⟩
    · go_enter Try.func76, Try.ntmps76
      go_wp2_with (first
        | (rw [← hwA]; go_at_call 77; refine hkey.mono ?_; rintro e w1 ⟨rfl, hc1⟩; clear hkey; have z0 := (hK.ch (hcA.trans hc1) (by simp)).cell 0; have hlk := (hM.ch (hcA.trans hc1) (by simp)).look kS mS (zB w1) KY false; simp only [encB, HKN.out] at hlk; have x0 := (hbx.ch hc1 (by simp)).cell 0; have x1 := (hbx.ch hc1 (by simp)).cell 1)
        | (go_at_call 78; refine (hlv _ (h.ch0 (hcA.trans hc1))).mono ?_; rintro e w2 ⟨rfl, hc2⟩))
      go_end0
      exact ⟨rfl, kv, av, ats, (AddAt.mk hK hA hM HT.out hO).ch0 ((hcA.trans hc1).trans hc2), .inl rfl, .inl rfl, ((hcA.trans hc1).trans hc2).of_nil⟩
end Go.Proofs.Ytbjdikeaolibpaa
