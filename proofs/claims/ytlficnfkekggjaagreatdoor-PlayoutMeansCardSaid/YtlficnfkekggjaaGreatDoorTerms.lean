
/-
  Terms, literals and rules, and how they lie in memory. No program is in sight here.
-/
import Derived.Test.YtlficnfkekggjaaGreatDoorSpec
namespace Go.Proofs.YtlficnfkekggjaaGreatDoor

inductive Tm where
  | mk (name : ByteArray) (args : List Tm)
def Tm.name : Tm → ByteArray | .mk n _ => n
def Tm.args : Tm → List Tm | .mk _ a => a
structure Li where
  nt : Bool
  atom : Tm
structure Ru where
  head : Tm
  body : List Li

mutual
def TmR (p : Nat → Prop) (w : World) : Tm → List Value → Prop
  | .mk n as, cs => ∃ v css, cs = [.string n, v] ∧ Sl p w 2 v css ∧ TmsR p w as css
def TmsR (p : Nat → Prop) (w : World) : List Tm → List (List Value) → Prop
  | [], css => css = []
  | t :: ts, css => ∃ c r, css = c :: r ∧ TmR p w t c ∧ TmsR p w ts r
end
def SlT (p : Nat → Prop) (w : World) (v : Value) (ts : List Tm) : Prop := ∃ css, Sl p w 2 v css ∧ TmsR p w ts css

/-- elements of k cells, each of which stands to the list's element as R says -/
def SlG {α : Type} (R : World → α → List Value → Prop) (k : Nat) (p : Nat → Prop) (w : World) (v : Value) (xs : List α) : Prop :=
  ∃ css : List (List Value), Sl p w k v css ∧ css.length = xs.length ∧ ∀ (i : Nat) (cs : List Value) (x : α), css[i]? = some cs → xs[i]? = some x → R w x cs

def LiR (p : Nat → Prop) (w : World) (l : Li) (cs : List Value) : Prop := ∃ v, cs = [.bool l.nt, .string l.atom.name, v] ∧ SlT p w v l.atom.args
def SlLi (p : Nat → Prop) (w : World) (v : Value) (ls : List Li) : Prop := SlG (LiR p) 3 p w v ls
def RuR (p : Nat → Prop) (w : World) (r : Ru) (cs : List Value) : Prop := ∃ va vb, cs = [.string r.head.name, va, vb] ∧ SlT p w va r.head.args ∧ SlLi p w vb r.body
def SlR (p : Nat → Prop) (w : World) (v : Value) (rs : List Ru) : Prop := SlG (RuR p) 3 p w v rs

section
variable {p q : Nat → Prop} {w w' : World}
theorem TmsR.len : ∀ {ts : List Tm} {css : List (List Value)}, TmsR p w ts css → css.length = ts.length
  | [], css, h => by simp only [TmsR] at h; subst h; rfl
  | t :: ts, css, h => by
    simp only [TmsR] at h
    obtain ⟨c, r, rfl, _, hr⟩ := h
    simp [TmsR.len hr]
theorem TmsR.get : ∀ {ts : List Tm} {css : List (List Value)} {i : Nat} {t : Tm} {cs : List Value}, TmsR p w ts css → ts[i]? = some t → css[i]? = some cs → TmR p w t cs
  | [], _, _, _, _, _, h, _ => by simp at h
  | t :: ts, css, i, t', cs, h, h1, h2 => by
    simp only [TmsR] at h
    obtain ⟨c, r, rfl, hc, hr⟩ := h
    cases i with
    | zero => simp only [List.getElem?_cons_zero, Option.some.injEq] at h1 h2; subst h1 h2; exact hc
    | succ i => exact TmsR.get hr (by simpa using h1) (by simpa using h2)
theorem TmsR.of : ∀ {ts : List Tm} {css : List (List Value)}, css.length = ts.length → (∀ (i : Nat) (t : Tm) (cs : List Value), ts[i]? = some t → css[i]? = some cs → TmR p w t cs) → TmsR p w ts css
  | [], css, h, _ => by simp only [TmsR]; exact List.eq_nil_of_length_eq_zero h
  | t :: ts, [], h, _ => by simp at h
  | t :: ts, c :: r, h, hg => by
    simp only [TmsR]
    exact ⟨c, r, rfl, hg 0 t c rfl rfl, TmsR.of (by simpa using h) (fun i t' cs h1 h2 => hg (i + 1) t' cs (by simpa using h1) (by simpa using h2))⟩
mutual
theorem TmR.imp (hs : w.heap.size ≤ w'.heap.size) (hk : ∀ b, b < w.heap.size → p b → q b ∧ w'.heap[b]? = w.heap[b]?) : ∀ {t : Tm} {cs : List Value}, TmR p w t cs → TmR q w' t cs
  | .mk n as, cs, h => by
    simp only [TmR] at h ⊢
    obtain ⟨v, css, h1, h2, h3⟩ := h
    exact ⟨v, css, h1, h2.imp hs hk, TmsR.imp hs hk h3⟩
theorem TmsR.imp (hs : w.heap.size ≤ w'.heap.size) (hk : ∀ b, b < w.heap.size → p b → q b ∧ w'.heap[b]? = w.heap[b]?) : ∀ {ts : List Tm} {css : List (List Value)}, TmsR p w ts css → TmsR q w' ts css
  | [], css, h => by simpa only [TmsR] using h
  | t :: ts, css, h => by
    simp only [TmsR] at h ⊢
    obtain ⟨c, r, h1, h2, h3⟩ := h
    exact ⟨c, r, h1, TmR.imp hs hk h2, TmsR.imp hs hk h3⟩
end
theorem SlT.imp {v : Value} {ts : List Tm} (h : SlT p w v ts) (hs : w.heap.size ≤ w'.heap.size) (hk : ∀ b, b < w.heap.size → p b → q b ∧ w'.heap[b]? = w.heap[b]?) : SlT q w' v ts := by
  obtain ⟨css, h1, h2⟩ := h
  exact ⟨css, h1.imp hs hk, TmsR.imp hs hk h2⟩
theorem SlG.imp {α : Type} {R R' : World → α → List Value → Prop} {k : Nat} {v : Value} {xs : List α} (h : SlG R k p w v xs) (hs : w.heap.size ≤ w'.heap.size) (hk : ∀ b, b < w.heap.size → p b → q b ∧ w'.heap[b]? = w.heap[b]?)
    (hR : ∀ x cs, R w x cs → R' w' x cs) : SlG R' k q w' v xs := by
  obtain ⟨css, h1, h2, h3⟩ := h
  exact ⟨css, h1.imp hs hk, h2, fun i cs x h4 h5 => hR _ _ (h3 i cs x h4 h5)⟩
theorem LiR.imp (hs : w.heap.size ≤ w'.heap.size) (hk : ∀ b, b < w.heap.size → p b → q b ∧ w'.heap[b]? = w.heap[b]?) {x : Li} {cs : List Value} (h : LiR p w x cs) : LiR q w' x cs := by
  obtain ⟨v, h1, h2⟩ := h
  exact ⟨v, h1, h2.imp hs hk⟩
theorem SlLi.imp {v : Value} {ls : List Li} (h : SlLi p w v ls) (hs : w.heap.size ≤ w'.heap.size) (hk : ∀ b, b < w.heap.size → p b → q b ∧ w'.heap[b]? = w.heap[b]?) : SlLi q w' v ls :=
  SlG.imp h hs hk fun _ _ h => LiR.imp hs hk h
theorem RuR.imp (hs : w.heap.size ≤ w'.heap.size) (hk : ∀ b, b < w.heap.size → p b → q b ∧ w'.heap[b]? = w.heap[b]?) {x : Ru} {cs : List Value} (h : RuR p w x cs) : RuR q w' x cs := by
  obtain ⟨va, vb, h1, h2, h3⟩ := h
  exact ⟨va, vb, h1, h2.imp hs hk, h3.imp hs hk⟩
theorem SlR.imp {v : Value} {rs : List Ru} (h : SlR p w v rs) (hs : w.heap.size ≤ w'.heap.size) (hk : ∀ b, b < w.heap.size → p b → q b ∧ w'.heap[b]? = w.heap[b]?) : SlR q w' v rs :=
  SlG.imp h hs hk fun _ _ h => RuR.imp hs hk h
variable {S : List Nat} {v : Value}
theorem SlT.ch {ts : List Tm} (h : SlT p w v ts) (hc : Ch S w w') (hp : ∀ b, b < w.heap.size → p b → b ∉ S) : SlT p w' v ts := h.imp hc.size fun b hb h1 => ⟨h1, hc.block b hb (hp b hb h1)⟩
theorem SlLi.ch {ts : List Li} (h : SlLi p w v ts) (hc : Ch S w w') (hp : ∀ b, b < w.heap.size → p b → b ∉ S) : SlLi p w' v ts := h.imp hc.size fun b hb h1 => ⟨h1, hc.block b hb (hp b hb h1)⟩
theorem SlR.ch {ts : List Ru} (h : SlR p w v ts) (hc : Ch S w w') (hp : ∀ b, b < w.heap.size → p b → b ∉ S) : SlR p w' v ts := h.imp hc.size fun b hb h1 => ⟨h1, hc.block b hb (hp b hb h1)⟩
theorem SlT.ch0 {ts : List Tm} (h : SlT p w v ts) (hc : Ch [] w w') : SlT p w' v ts := h.ch hc (by simp)
theorem SlLi.ch0 {ts : List Li} (h : SlLi p w v ts) (hc : Ch [] w w') : SlLi p w' v ts := h.ch hc (by simp)
theorem SlR.ch0 {ts : List Ru} (h : SlR p w v ts) (hc : Ch [] w w') : SlR p w' v ts := h.ch hc (by simp)
theorem SlT.weak {ts : List Tm} (h : SlT p w v ts) (hk : ∀ b, b < w.heap.size → p b → q b) : SlT q w v ts := h.imp (Nat.le_refl _) fun b hb hp => ⟨hk b hb hp, rfl⟩
theorem SlLi.weak {ts : List Li} (h : SlLi p w v ts) (hk : ∀ b, b < w.heap.size → p b → q b) : SlLi q w v ts := h.imp (Nat.le_refl _) fun b hb hp => ⟨hk b hb hp, rfl⟩
theorem SlR.weak {ts : List Ru} (h : SlR p w v ts) (hk : ∀ b, b < w.heap.size → p b → q b) : SlR q w v ts := h.imp (Nat.le_refl _) fun b hb hp => ⟨hk b hb hp, rfl⟩
variable {a : Option Addr} {n c i : Nat}
theorem SlT.form {ts : List Tm} (h : SlT p w v ts) : ∃ a c, v = .slice a ts.length c ∧ ts.length ≤ c ∧ c ≤ maxLen := by
  obtain ⟨css, h1, h2⟩ := h
  have := Sl.form' h1
  rwa [h2.len] at this
theorem SlG.form {α : Type} {R : World → α → List Value → Prop} {k : Nat} {xs : List α} (h : SlG R k p w v xs) : ∃ a c, v = .slice a xs.length c ∧ xs.length ≤ c ∧ c ≤ maxLen := by
  obtain ⟨css, h1, h2, _⟩ := h
  have := Sl.form' h1
  rwa [h2] at this
theorem SlLi.form {ts : List Li} (h : SlLi p w v ts) : ∃ a c, v = .slice a ts.length c ∧ ts.length ≤ c ∧ c ≤ maxLen := SlG.form h
theorem SlR.form {ts : List Ru} (h : SlR p w v ts) : ∃ a c, v = .slice a ts.length c ∧ ts.length ≤ c ∧ c ≤ maxLen := SlG.form h
theorem SlG.at_ {α : Type} {R : World → α → List Value → Prop} {k : Nat} {xs : List α} (h : SlG R k p w (.slice a n c) xs) (hi : i < xs.length) : ∃ b o cs, a = some ⟨b, o, none⟩ ∧ (p b ∧ b < w.heap.size) ∧
    (∀ j u, cs[j]? = some u → w.cell? ⟨b, o + (i * k + j), none⟩ = some u) ∧ R w xs[i] cs := by
  obtain ⟨css, h1, h2, h3⟩ := h
  have hi' : i < css.length := by omega
  obtain ⟨b, o, rfl, hp, hc⟩ := Sl.at_ h1 (List.getElem?_eq_getElem hi')
  exact ⟨b, o, css[i], rfl, hp, hc, h3 i _ _ (List.getElem?_eq_getElem hi') (List.getElem?_eq_getElem hi)⟩
theorem SlT.at_ {ts : List Tm} (h : SlT p w (.slice a n c) ts) (hi : i < ts.length) : ∃ b o a' c', a = some ⟨b, o, none⟩ ∧ (p b ∧ b < w.heap.size) ∧
    w.cell? ⟨b, o + i * 2, none⟩ = some (.string ts[i].name) ∧ w.cell? ⟨b, o + i * 2 + 1, none⟩ = some (.slice a' ts[i].args.length c') ∧ SlT p w (.slice a' ts[i].args.length c') ts[i].args := by
  obtain ⟨css, h1, h2⟩ := h
  have hi' : i < css.length := by rw [h2.len]; exact hi
  obtain ⟨b, o, rfl, hp, hc⟩ := Sl.at_ h1 (List.getElem?_eq_getElem hi')
  have hr := h2.get (List.getElem?_eq_getElem hi) (List.getElem?_eq_getElem hi')
  generalize ts[i] = t at hr ⊢
  obtain ⟨nm, as⟩ := t
  simp only [TmR] at hr
  obtain ⟨v, css', e, hv, hr⟩ := hr
  have hT : SlT p w v as := ⟨css', hv, hr⟩
  obtain ⟨a', c', rfl, _⟩ := hT.form
  rw [e] at hc
  exact ⟨b, o, a', c', rfl, hp, by simpa [Tm.name] using hc 0 _ rfl, by simpa [Tm.args, Nat.add_assoc] using hc 1 _ rfl, hT⟩
theorem SlLi.at_ {ts : List Li} (h : SlLi p w (.slice a n c) ts) (hi : i < ts.length) : ∃ b o a' c', a = some ⟨b, o, none⟩ ∧ (p b ∧ b < w.heap.size) ∧
    w.cell? ⟨b, o + i * 3, none⟩ = some (.bool ts[i].nt) ∧ w.cell? ⟨b, o + i * 3 + 1, none⟩ = some (.string ts[i].atom.name) ∧ w.cell? ⟨b, o + i * 3 + 2, none⟩ = some (.slice a' ts[i].atom.args.length c') ∧ SlT p w (.slice a' ts[i].atom.args.length c') ts[i].atom.args := by
  obtain ⟨b, o, cs, rfl, hp, hc, v, e, hT⟩ := SlG.at_ h hi
  obtain ⟨a', c', rfl, _⟩ := hT.form
  rw [e] at hc
  exact ⟨b, o, a', c', rfl, hp, by simpa using hc 0 _ rfl, by simpa [Nat.add_assoc] using hc 1 _ rfl, by simpa [Nat.add_assoc] using hc 2 _ rfl, hT⟩
theorem SlR.at_ {ts : List Ru} (h : SlR p w (.slice a n c) ts) (hi : i < ts.length) : ∃ b o a' c' a'' c'', a = some ⟨b, o, none⟩ ∧ (p b ∧ b < w.heap.size) ∧
    w.cell? ⟨b, o + i * 3, none⟩ = some (.string ts[i].head.name) ∧ w.cell? ⟨b, o + i * 3 + 1, none⟩ = some (.slice a' ts[i].head.args.length c') ∧ w.cell? ⟨b, o + i * 3 + 2, none⟩ = some (.slice a'' ts[i].body.length c'') ∧
    SlT p w (.slice a' ts[i].head.args.length c') ts[i].head.args ∧ SlLi p w (.slice a'' ts[i].body.length c'') ts[i].body := by
  obtain ⟨b, o, cs, rfl, hp, hc, va, vb, e, hT, hL⟩ := SlG.at_ h hi
  obtain ⟨a', c', rfl, _⟩ := hT.form
  obtain ⟨a'', c'', rfl, _⟩ := hL.form
  rw [e] at hc
  exact ⟨b, o, a', c', a'', c'', rfl, hp, by simpa using hc 0 _ rfl, by simpa [Nat.add_assoc] using hc 1 _ rfl, by simpa [Nat.add_assoc] using hc 2 _ rfl, hT, hL⟩
end
end Go.Proofs.YtlficnfkekggjaaGreatDoor
