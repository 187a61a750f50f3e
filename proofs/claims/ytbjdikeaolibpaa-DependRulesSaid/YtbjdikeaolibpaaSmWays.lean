/-
  The contract of (*plain.work).ways.
-/
import Derived.Test.YtbjdikeaolibpaaSmInst
namespace Go.Proofs.Ytbjdikeaolibpaa
open Go.RowKit

/-- a slice of terms whose own row lies where p' holds, the terms' rows where p holds -/
def SlT2 (p' p : Nat → Prop) (w : World) (v : Value) (ts : List Tm) : Prop := ∃ css, Sl p' w 2 v css ∧ TmsR p w ts css
theorem SlT2.form {p' p : Nat → Prop} {w : World} {v : Value} {ts : List Tm} (h : SlT2 p' p w v ts) : ∃ a c, v = .slice a ts.length c ∧ ts.length ≤ c ∧ c ≤ maxLen := by
  obtain ⟨css, h1, h2⟩ := h
  have := Sl.form' h1
  rwa [h2.len] at this
theorem SlT2.imp {p' q' p q : Nat → Prop} {w w' : World} {v : Value} {ts : List Tm} (h : SlT2 p' p w v ts) (hs : w.heap.size ≤ w'.heap.size) (hk' : ∀ b, b < w.heap.size → p' b → q' b ∧ w'.heap[b]? = w.heap[b]?) (hk : ∀ b, b < w.heap.size → p b → q b ∧ w'.heap[b]? = w.heap[b]?) : SlT2 q' q w' v ts := by
  obtain ⟨css, h1, h2⟩ := h
  exact ⟨css, h1.imp hs hk', TmsR.imp hs hk h2⟩
theorem SlT2.ch {p' p : Nat → Prop} {S : List Nat} {w w' : World} {v : Value} {ts : List Tm} (h : SlT2 p' p w v ts) (hc : Ch S w w') (hp' : ∀ b, b < w.heap.size → p' b → b ∉ S) (hp : ∀ b, b < w.heap.size → p b → b ∉ S) : SlT2 p' p w' v ts :=
  h.imp hc.size (fun b hb h1 => ⟨h1, hc.block b hb (hp' b hb h1)⟩) (fun b hb h1 => ⟨h1, hc.block b hb (hp b hb h1)⟩)
theorem SlT2.at_ {p' p : Nat → Prop} {w : World} {a : Option Addr} {n c i : Nat} {ts : List Tm} (h : SlT2 p' p w (.slice a n c) ts) (hi : i < ts.length) : ∃ b o a' c', a = some ⟨b, o, none⟩ ∧ (p' b ∧ b < w.heap.size) ∧
    w.cell? ⟨b, o + i * 2, none⟩ = some (.string ts[i].name) ∧ w.cell? ⟨b, o + i * 2 + 1, none⟩ = some (.slice a' ts[i].args.length c') ∧ SlT p w (.slice a' ts[i].args.length c') ts[i].args := by
  obtain ⟨css, h1, h2⟩ := h
  have hi' : i < css.length := by rw [h2.len]; exact hi
  obtain ⟨b, o, rfl, hp, hc⟩ := Sl.at_ h1 (List.getElem?_eq_getElem hi')
  have hr := h2.get (List.getElem?_eq_getElem hi) (List.getElem?_eq_getElem hi')
  generalize ts[i] = t at hr ⊢
  obtain ⟨nm, ags⟩ := t
  simp only [TmR] at hr
  obtain ⟨v, css', e, hv, hr⟩ := hr
  have hT : SlT p w v ags := ⟨css', hv, hr⟩
  obtain ⟨a', c', rfl, _⟩ := hT.form
  rw [e] at hc
  exact ⟨b, o, a', c', rfl, hp, by simpa [Tm.name] using hc 0 _ rfl, by simpa [Tm.args, Nat.add_assoc] using hc 1 _ rfl, hT⟩
/-- a list of pairs as an element -/
def PwR (p : Nat → Prop) (w : World) (s : List Pr) (cs : List Value) : Prop := ∃ u, cs = [u] ∧ SlPr p w u s
theorem imp_pw : Imp PwR := fun _ _ _ _ _ _ hs hk h => by
  obtain ⟨u, h1, h2⟩ := h
  exact ⟨u, h1, SlG.imp h2 hs hk fun x cs hx => imp_pr _ _ _ _ _ _ hs hk hx⟩
def SlW (p : Nat → Prop) (w : World) (v : Value) (xs : List (List Pr)) : Prop := SlG (PwR p) 1 p w v xs
theorem SlW.form {p : Nat → Prop} {w : World} {v : Value} {xs : List (List Pr)} (h : SlW p w v xs) : ∃ a c, v = .slice a xs.length c ∧ xs.length ≤ c ∧ c ≤ maxLen := SlG.form h
theorem SlW.at_ {p : Nat → Prop} {w : World} {a : Option Addr} {n c i : Nat} {xs : List (List Pr)} (h : SlW p w (.slice a n c) xs) (hi : i < xs.length) : ∃ b o a' c', a = some ⟨b, o, none⟩ ∧ (p b ∧ b < w.heap.size) ∧
    w.cell? ⟨b, o + i, none⟩ = some (.slice a' xs[i].length c') ∧ SlPr p w (.slice a' xs[i].length c') xs[i] := by
  obtain ⟨b, o, cs, rfl, hp, hc, u, e, hT⟩ := SlG.at_ h hi
  obtain ⟨a', c', rfl, _⟩ := hT.form
  rw [e] at hc
  exact ⟨b, o, a', c', rfl, hp, by simpa using hc 0 _ rfl, hT⟩
theorem SlW.chq {p q : Nat → Prop} {S : List Nat} {w w' : World} {v : Value} {xs : List (List Pr)} (h : SlW p w v xs) (hc : Ch S w w') (hp : ∀ b, b < w.heap.size → p b → b ∉ S ∧ q b) : SlW q w' v xs :=
  SlG.imp h hc.size (fun b hb h1 => ⟨(hp b hb h1).2, hc.block b hb (hp b hb h1).1⟩) fun _ _ hx => imp_pw _ _ _ _ _ _ hc.size (fun b hb h1 => ⟨(hp b hb h1).2, hc.block b hb (hp b hb h1).1⟩) hx
theorem SlPr.chq {p q : Nat → Prop} {S : List Nat} {w w' : World} {v : Value} {xs : List Pr} (h : SlPr p w v xs) (hc : Ch S w w') (hp : ∀ b, b < w.heap.size → p b → b ∉ S ∧ q b) : SlPr q w' v xs :=
  SlG.imp h hc.size (fun b hb h1 => ⟨(hp b hb h1).2, hc.block b hb (hp b hb h1).1⟩) fun _ _ hx => imp_pr _ _ _ _ _ _ hc.size (fun b hb h1 => ⟨(hp b hb h1).2, hc.block b hb (hp b hb h1).1⟩) hx
/-- a row of lists of pairs of the call's own, from base on; the lists' own rows lie where L holds or from base on -/
def OwnW (L : Nat → Prop) (w : World) (base : Nat) (v : Value) (xs : List (List Pr)) : Prop :=
  ∃ css, Own w base 115 1 v css ∧ css.length = xs.length ∧ ∀ (i : Nat) (cs : List Value) (x : List Pr), css[i]? = some cs → xs[i]? = some x → PwR (fun b => (L b ∨ base ≤ b) ∧ v.ownBlock ≠ some b) w x cs
theorem OwnW.nil (L : Nat → Prop) (w : World) (base : Nat) : OwnW L w base (.slice none 0 0) [] := ⟨[], Own.nil _ _ _ _, rfl, by simp⟩
theorem OwnW.ch {L : Nat → Prop} {S : List Nat} {w w' : World} {base : Nat} {v : Value} {xs : List (List Pr)} (h : OwnW L w base v xs) (hc : Ch S w w') (hS : ∀ x ∈ S, (¬ L x ∧ x < base) ∨ w.heap.size ≤ x) : OwnW L w' base v xs := by
  obtain ⟨css, h2, hl, h3⟩ := h
  refine ⟨css, h2.ch hc (fun b hb hm => ?_), hl, fun i cs x h4 h5 => imp_pw _ _ _ _ _ _ hc.size (fun b hb hp => ⟨hp, hc.block b hb (fun hm => ?_)⟩) (h3 i cs x h4 h5)⟩
  · have := h2.lt hb; rcases hS b hm with h | h <;> omega
  · rcases hS b hm with h | h
    · rcases hp.1 with h1 | h1
      · exact h.1 h1
      · omega
    · omega
theorem OwnW.slw {L : Nat → Prop} {w : World} {base : Nat} {v : Value} {xs : List (List Pr)} (h : OwnW L w base v xs) : SlW (fun b => L b ∨ base ≤ b) w v xs := by
  obtain ⟨css, h2, hl, h3⟩ := h
  exact ⟨css, h2.sl.weak (fun b _ hb => .inr hb.1), hl, fun i cs x h4 h5 => imp_pw _ _ _ _ _ _ (Nat.le_refl _) (fun b _ hp => ⟨hp.1, rfl⟩) (h3 i cs x h4 h5)⟩
theorem OwnW.add {L : Nat → Prop} {w1 w2 : World} {base : Nat} {v v' u : Value} {xs : List (List Pr)} {css : List (List Value)} {y : List Pr} (hl : css.length = xs.length)
    (h2 : ∀ (i : Nat) (cs : List Value) (x : List Pr), css[i]? = some cs → xs[i]? = some x → PwR (fun b => (L b ∨ base ≤ b) ∧ v.ownBlock ≠ some b) w1 x cs)
    (hg : SlPr (fun b => (L b ∨ base ≤ b) ∧ v.ownBlock ≠ some b) w1 u y) (hc : Ch v.ownBlock.toList w1 w2) (hat : v'.ownBlock = v.ownBlock ∨ v'.ownBlock = some w1.heap.size) (ho : Own w2 base 115 1 v' (css ++ [[u]])) : OwnW L w2 base v' (xs ++ [y]) := by
  have key : ∀ b, b < w1.heap.size → ((L b ∨ base ≤ b) ∧ v.ownBlock ≠ some b) → ((L b ∨ base ≤ b) ∧ v'.ownBlock ≠ some b) ∧ w2.heap[b]? = w1.heap[b]? := by
    intro b hb hp
    refine ⟨⟨hp.1, fun e => ?_⟩, hc.block b hb (fun hm => ?_)⟩
    · rcases hat with h | h
      · exact hp.2 (h ▸ e)
      · rw [h] at e; injection e with e; omega
    · cases hv : v.ownBlock with
      | none => rw [hv] at hm; cases hm
      | some g' => rw [hv] at hm; simp at hm; subst hm; exact hp.2 hv
  refine ⟨_, ho, by simp [hl], fun i cs x h4 h5 => ?_⟩
  rcases Nat.lt_or_ge i css.length with hi | hi
  · rw [List.getElem?_append_left hi] at h4
    rw [List.getElem?_append_left (by omega)] at h5
    exact imp_pw _ _ _ _ _ _ hc.size key (h2 i cs x h4 h5)
  · rw [List.getElem?_append_right hi] at h4
    rw [List.getElem?_append_right (by omega), ← hl] at h5
    cases hd : i - css.length with
    | zero =>
      rw [hd] at h4 h5
      simp at h4 h5
      subst h4 h5
      exact imp_pw _ _ _ _ _ _ hc.size key ⟨u, rfl, hg⟩
    | succ m => rw [hd] at h4; simp at h4
/-- what is known of a list of ways -/
def GoodW (B m : Nat) (xs : List (List Pr)) : Prop := ∀ s ∈ xs, GoodP B 19 3 s ∧ s.length ≤ m
theorem GoodW.add {B m : Nat} {xs : List (List Pr)} (h : GoodW B m xs) {s : List Pr} (hs : GoodP B 19 3 s ∧ s.length ≤ m) : GoodW B m (xs ++ [s]) := fun x hx => by
  rcases List.mem_append.1 hx with h1 | h1
  · exact h x h1
  · rw [List.mem_singleton] at h1; subst h1; exact hs
end Go.Proofs.Ytbjdikeaolibpaa
