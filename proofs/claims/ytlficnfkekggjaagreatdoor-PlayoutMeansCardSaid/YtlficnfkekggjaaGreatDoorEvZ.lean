
/-
  Regions that draw their order: whatever the order, the run is sound.
  Regions that draw their order: the invariant is kept by each operation that is ready.
  Regions that draw their order: they are sound.
  Functions that are answered by a proved contract, not run: what the steps are.
-/
import Derived.Test.YtlficnfkekggjaaGreatDoorEvV
namespace Go.Ev
section
variable {R : Type} {P : Program}
section
variable {nt : Nat} {ops : Array Oper} {as : List Nat} {E : Nat → E4} {T : Nat → S} {d : Nat → Dc}
/-- listed -/
def Ls (l : Array Bool) (i : Nat) : Prop := l[i]? = some true
structure Inv (P : Program) (nt : Nat) (ops : Array Oper) (as : List Nat) (E : Nat → E4) (T : Nat → S) (d : Nat → Dc) (φ0 : Phi) (w0 : World) (l : Array Bool) (φ : Phi) (a : Act) (w : World) : Prop where
  size : l.size = ops.size
  closed : ∀ (i m : Nat), Ls l i → as[i]? = some m → ∀ k, m.testBit k = true → Ls l k
  ext : φ0.le φ
  dom : ∀ b x, φ b = some x → φ0 b = none → ∃ i, Ls l i ∧ (T i).n ≤ b ∧ b < (T (i + 1)).n
  tsize : a.tmps.size = nt
  defers : a.defers = []
  slot : ∀ t, t < 256 → ∃ v, Ver (Ls l) (TS ops t) v ∧ VR (φ.cut (T v).n) (rdE (E v) t) (a.tmps.getD t undef)
  lt : ∀ b x, φ b = some x → b < 262144 ∧ x.1 < w.heap.size
  heap : ∀ b x, φ b = some x → ∃ v, Ver (Ls l) (TB d T b) v ∧ BR P (φ.cut (T v).n) x.2.1 x.2.2 (look (T v).h b) w.heap[x.1]?
  inj : ∀ b c x y v v', φ b = some x → φ c = some y → x.1 = y.1 → Ver (Ls l) (TB d T b) v → Ver (Ls l) (TB d T c) v' → look (T v).h b ≠ .gone → look (T v').h c ≠ .gone → b = c
  wsize : w0.heap.size ≤ w.heap.size
  os : w.os = w0.os
  tape : w.tape = w0.tape
  output : w.output = w0.output
  frame : ∀ β, β < w0.heap.size → (∀ b x, φ0 b = some x → x.1 = β → b < (T 0).base ∧ b ∉ (T ops.size).w) → w.heap[β]? = w0.heap[β]?
  old : ∀ b x, φ b = some x → φ0 b = none → x.1 < w0.heap.size → ∃ c y, φ0 c = some y ∧ y.1 = x.1 ∧ ((T 0).base ≤ c ∨ c ∈ (T ops.size).w)
theorem Ls.lt {l : Array Bool} {i : Nat} (h : Ls l i) : i < l.size := (Array.getElem?_eq_some_iff.1 h).1
theorem Ls.set {l : Array Bool} {j : Nat} (hj : j < l.size) (i : Nat) : Ls (l.setIfInBounds j true) i ↔ Ls l i ∨ i = j := by
  unfold Ls
  rw [Array.getElem?_setIfInBounds]
  by_cases h : j = i
  · subst h; simp [hj]
  · rw [if_neg h]; simp [Ne.symm h]
theorem Ls.not {l : Array Bool} {i : Nat} (h : l.getD i true = false) : ¬ Ls l i := fun k => by
  rw [Array.getD_eq_getD_getElem?, show l[i]? = some true from k] at h
  cases h
variable (C : Cx P nt ops as E T d)
include C
/-- a version's number -/
theorem Inv.below {φ0 : Phi} {w0 : World} {l : Array Bool} {φ : Phi} {a : Act} {w : World} (I : Inv P nt ops as E T d φ0 w0 l φ a w) (h0 : ∀ b, (T 0).n ≤ b → φ0 b = none)
    {b v : Nat} {x : Nat × Nat × Nat} (hb : φ b = some x) (hv : Ver (Ls l) (TB d T b) v) : v ≤ ops.size ∧ b < (T v).n := by
  cases h : φ0 b with
  | some y =>
    have hb0 : b < (T 0).n := by
      rcases Nat.lt_or_ge b (T 0).n with h' | h'
      · exact h'
      · rw [h0 b h'] at h; cases h
    rcases hv with ⟨rfl, _⟩ | ⟨i, rfl, h1, _⟩
    · exact ⟨Nat.zero_le _, hb0⟩
    · have hi : i < ops.size := by rw [← I.size]; exact h1.lt
      exact ⟨hi, Nat.lt_of_lt_of_le hb0 (C.mono (Nat.zero_le _) hi)⟩
  | none =>
    obtain ⟨q, hq, hq1, hq2⟩ := I.dom b x hb h
    rcases hv with ⟨rfl, h1⟩ | ⟨i, rfl, h1, _, h3⟩
    · exact absurd (.inr ⟨hq1, hq2⟩) (h1 q hq)
    · have hi : i < ops.size := by rw [← I.size]; exact h1.lt
      have := h3 q hq (.inr ⟨hq1, hq2⟩)
      exact ⟨hi, Nat.lt_of_lt_of_le hq2 (C.mono (by omega) hi)⟩
/-- what an operation that is ready sees of a block -/
theorem Inv.sees {φ0 : Phi} {w0 : World} {l : Array Bool} {φ : Phi} {a : Act} {w : World} (I : Inv P nt ops as E T d φ0 w0 l φ a w) (h0 : ∀ b, (T 0).n ≤ b → φ0 b = none)
    {j m : Nat} (hj : j < ops.size) (hnj : ¬ Ls l j) (hm : as[j]? = some m) (hanc : ∀ k, m.testBit k = true → Ls l k)
    {b v : Nat} {x : Nat × Nat × Nat} (hb : φ b = some x) (hbj : b < (T j).n) (hvis : (d j).vis b) (hv : Ver (Ls l) (TB d T b) v) :
    (v ≤ j ∧ look (T j).h b = look (T v).h b) ∨ ∃ i, v = i + 1 ∧ Ls l i ∧ j < i ∧ b ∈ (d i).W := by
  have hlt := (I.lt b x hb).1
  have hbel := I.below C h0 hb hv
  -- what is not listed and stands ahead does not write it
  have un : ∀ q, q < j → ¬ Ls l q → b ∉ (d q).W := fun q hq hn hW => by
    have hbit : m.testBit q = false := by
      cases h : m.testBit q with
      | true => exact absurd (hanc q h) hn
      | false => rfl
    exact (C.pair q j m hq hm hbit).p1 b hW hvis
  have key : ∀ {p : Nat}, p ≤ j → b < (T p).n → (∀ q, p ≤ q → Ls l q → q < j → ¬ TB d T b q) → look (T j).h b = look (T p).h b := fun {p} hp hbp hq => by
    refine C.same hlt hbp hp (by omega) fun q h1 h2 hTB => ?_
    by_cases hl : Ls l q
    · exact hq q h1 hl h2 hTB
    · rcases hTB with hW | ⟨hW, _⟩
      · exact un q h2 hl hW
      · have := C.mono (i := p) (j := q) h1 (by omega)
        omega
  rcases hv with ⟨rfl, h1⟩ | ⟨i, rfl, h1, h2, h3⟩
  · exact .inl ⟨Nat.zero_le _, key (Nat.zero_le _) hbel.2 fun q _ hl _ => h1 q hl⟩
  · rcases Nat.lt_trichotomy i j with hij | hij | hij
    · exact .inl ⟨hij, key hij hbel.2 fun q hq hl _ hTB => by have := h3 q hl hTB; omega⟩
    · exact absurd (hij ▸ h1) hnj
    · refine .inr ⟨i, rfl, h1, hij, ?_⟩
      rcases h2 with h2 | ⟨h2, _⟩
      · exact h2
      · have hi : i < ops.size := by rw [← I.size]; exact h1.lt
        have := C.mono (i := j) (j := i) (by omega) (by omega)
        omega
/-- the slots that it looks at -/
theorem Inv.slots {φ0 : Phi} {w0 : World} {l : Array Bool} {φ : Phi} {a : Act} {w : World} (I : Inv P nt ops as E T d φ0 w0 l φ a w)
    {j m : Nat} {o : Oper} (ho : ops[j]? = some o) (hnj : ¬ Ls l j) (hm : as[j]? = some m) (hanc : ∀ k, m.testBit k = true → Ls l k)
    {t : Nat} (ht : t ∈ o.looksAt ops) (ht2 : t < 256) : VR (φ.cut (T j).n) (rdE (E j) t) (a.tmps.getD t undef) := by
  obtain ⟨v, hv, hV⟩ := I.slot t ht2
  have hj : j < ops.size := (Array.getElem?_eq_some_iff.1 ho).1
  have un : ∀ q, q < j → ¬ Ls l q → ¬ TS ops t q := fun q hq hn ⟨oq, h1, h2⟩ => by
    have hbit : m.testBit q = false := by
      cases h : m.testBit q with
      | true => exact absurd (hanc q h) hn
      | false => rfl
    exact (Oper.apart_spec (C.apart q j oq o m hq h1 ho hm hbit)).1 t h2 ht
  have key : ∀ {p : Nat}, p ≤ j → (∀ q, p ≤ q → Ls l q → q < j → ¬ TS ops t q) → rdE (E j) t = rdE (E p) t := fun {p} hp hq => by
    refine C.sameE ht2 hp (by omega) fun q h1 h2 hTS => ?_
    by_cases hl : Ls l q
    · exact hq q h1 hl h2 hTS
    · exact un q h2 hl hTS
  rcases hv with ⟨rfl, h1⟩ | ⟨i, rfl, h1, h2, h3⟩
  · rw [key (Nat.zero_le _) fun q _ hl _ => h1 q hl]
    exact hV.mono (Phi.cut_mono (C.mono (Nat.zero_le _) (by omega)) φ.le_refl) _ _
  · have hi : i < ops.size := by rw [← I.size]; exact h1.lt
    rcases Nat.lt_trichotomy i j with hij | hij | hij
    · rw [key hij fun q hq hl _ hTS => by have := h3 q hl hTS; omega]
      exact hV.mono (Phi.cut_mono (C.mono hij (by omega)) φ.le_refl) _ _
    · exact absurd (hij ▸ h1) hnj
    · obtain ⟨oi, g1, g2⟩ := h2
      obtain ⟨mi, hmi⟩ : ∃ mi, as[i]? = some mi := by
        have := C.masks.len
        exact ⟨_, List.getElem?_eq_getElem (by rw [this]; simpa using hi)⟩
      have hbit : mi.testBit j = false := by
        cases h : mi.testBit j with
        | true => exact absurd (I.closed i mi h1 hmi j h) hnj
        | false => rfl
      exact absurd ht ((Oper.apart_spec (C.apart j i o oi mi hij ho g1 hmi hbit)).2.2 t g2)
/-- another operation that is listed and stands behind does not touch what it touches -/
theorem Inv.lastB {φ0 : Phi} {w0 : World} {l : Array Bool} {φ : Phi} {a : Act} {w : World} (I : Inv P nt ops as E T d φ0 w0 l φ a w)
    {j : Nat} (hj : j < ops.size) (hnj : ¬ Ls l j) {b : Nat} (hb : TB d T b j) : ∀ i, Ls l i → TB d T b i → i ≤ j := fun i hi hTB => by
  rcases Nat.lt_or_ge j i with hij | hij
  · exfalso
    have him : i < ops.size := by rw [← I.size]; exact hi.lt
    obtain ⟨mi, hmi⟩ : ∃ mi, as[i]? = some mi := ⟨_, List.getElem?_eq_getElem (by rw [C.masks.len]; simpa using him)⟩
    have hbit : mi.testBit j = false := by
      cases h : mi.testBit j with
      | true => exact absurd (I.closed i mi hi hmi j h) hnj
      | false => rfl
    have hp := C.pair j i mi hij hmi hbit
    have hf := C.fact j _ (Array.getElem?_eq_getElem hj)
    have hm1 := C.mono (i := j + 1) (j := i) hij (by omega)
    have hm0 := hf.le
    rcases hTB with hW | ⟨hW, _⟩
    · cases hall : (d j).all with
      | true =>
        have h1 := hp.all hall b hW
        rw [hf.n'] at h1
        rcases hb with hb | hb
        · have := (hf.W b hb).1; omega
        · omega
      | false =>
        obtain ⟨h1, h2, _⟩ := hp.some hall b hW
        rw [hf.n, hf.n'] at h1
        rcases hb with hb | hb
        · exact h2 hb
        · omega
    · rcases hb with hb | hb
      · have := (hf.W b hb).1; omega
      · omega
  · exact hij
theorem Inv.lastS {φ0 : Phi} {w0 : World} {l : Array Bool} {φ : Phi} {a : Act} {w : World} (I : Inv P nt ops as E T d φ0 w0 l φ a w)
    {j : Nat} (hnj : ¬ Ls l j) {t : Nat} (hb : TS ops t j) : ∀ i, Ls l i → TS ops t i → i ≤ j := fun i hi ⟨oi, g1, g2⟩ => by
  rcases Nat.lt_or_ge j i with hij | hij
  · exfalso
    have him : i < ops.size := by rw [← I.size]; exact hi.lt
    obtain ⟨mi, hmi⟩ : ∃ mi, as[i]? = some mi := ⟨_, List.getElem?_eq_getElem (by rw [C.masks.len]; simpa using him)⟩
    have hbit : mi.testBit j = false := by
      cases h : mi.testBit j with
      | true => exact absurd (I.closed i mi hi hmi j h) hnj
      | false => rfl
    obtain ⟨o, h1, h2⟩ := hb
    exact (Oper.apart_spec (C.apart j i o oi mi hij h1 g1 hmi hbit)).2.1 t h2 g2
  · exact hij
end
end
end Go.Ev
namespace Go.Ev
section
variable {R : Type} {P : Program}
section
variable {nt : Nat} {ops : Array Oper} {as : List Nat} {E : Nat → E4} {T : Nat → S} {d : Nat → Dc}
/-- what is known where an operation is ready -/
structure Rdy (ops : Array Oper) (as : List Nat) (l : Array Bool) (j m : Nat) (o : Oper) : Prop where
  o : ops[j]? = some o
  n : ¬ Ls l j
  mask : as[j]? = some m
  anc : ∀ k, Nat.testBit m k = true → Ls l k
theorem put_slot {a : Act} {o : Oper} {u : Value} {t : Nat} {nt : Nat} (hs : a.tmps.size = nt) (ht : o.dst = some t) (h : t < nt) : (a.put o.dst u).tmps.getD t undef = u := by
  rw [ht]
  unfold Act.put
  simp only [Array.getD_eq_getD_getElem?]
  rw [Array.getElem?_setIfInBounds, if_pos rfl, if_pos (by rw [hs]; exact h)]
  rfl
theorem put_other {a : Act} {o : Oper} {u : Value} {t : Nat} (ht : o.dst ≠ some t) : (a.put o.dst u).tmps.getD t undef = a.tmps.getD t undef := by
  cases hd : o.dst with
  | none => rfl
  | some q =>
    unfold Act.put
    simp only [Array.getD_eq_getD_getElem?]
    rw [Array.getElem?_setIfInBounds, if_neg (fun e => ht (by rw [hd, e]))]
theorem put_size {a : Act} {dst : Option Nat} {u : Value} : (a.put dst u).tmps.size = a.tmps.size := by cases dst <;> simp [Act.put]
theorem put_defers {a : Act} {dst : Option Nat} {u : Value} : (a.put dst u).defers = a.defers := by cases dst <;> rfl
variable (C : Cx P nt ops as E T d)
include C
omit C in
theorem Inv.closed' {φ0 : Phi} {w0 : World} {l : Array Bool} {φ : Phi} {a : Act} {w : World} (I : Inv P nt ops as E T d φ0 w0 l φ a w) {j m : Nat} {o : Oper} (hr : Rdy ops as l j m o) (hjl : j < l.size) :
    ∀ (i m' : Nat), Ls (l.setIfInBounds j true) i → as[i]? = some m' → ∀ k, m'.testBit k = true → Ls (l.setIfInBounds j true) k := fun i m' hi hm' k hk => by
  rw [Ls.set hjl] at hi ⊢
  rcases hi with hi | rfl
  · exact .inl (I.closed i m' hi hm' k hk)
  · have : m = m' := by have := hr.mask; rw [hm'] at this; injection this with this; exact this.symm
    subst this
    exact .inl (hr.anc k hk)
/-- the slots behind it -/
theorem Inv.slot' {φ0 : Phi} {w0 : World} {l : Array Bool} {φ : Phi} {a : Act} {w : World} (I : Inv P nt ops as E T d φ0 w0 l φ a w) {j m : Nat} {o : Oper} (hr : Rdy ops as l j m o) (hjl : j < l.size)
    {φ2 : Phi} (hle : φ.le φ2) {u : Value} (hu : ∀ t, o.dst = some t → VR (φ2.cut (T (j + 1)).n) (rdE (E (j + 1)) t) u) :
    ∀ t, t < 256 → ∃ v, Ver (Ls (l.setIfInBounds j true)) (TS ops t) v ∧ VR (φ2.cut (T v).n) (rdE (E v) t) ((a.put o.dst u).tmps.getD t undef) := fun t ht => by
  by_cases hd : o.dst = some t
  · have hnt : t < nt := by
      have := (C.fact j o hr.o).fr
      rw [hd] at this
      exact this.1
    exact ⟨j + 1, Ver.next (Ls.set hjl) ⟨o, hr.o, hd⟩ (I.lastS C hr.n ⟨o, hr.o, hd⟩), by rw [put_slot I.tsize hd hnt]; exact hu t hd⟩
  · obtain ⟨v, hv, hV⟩ := I.slot t ht
    have hno : ¬ TS ops t j := fun ⟨o', h1, h2⟩ => by rw [hr.o] at h1; injection h1 with h1; subst h1; exact hd h2
    refine ⟨v, (Ver.keep (Ls.set hjl) hno).2 hv, ?_⟩
    · rw [put_other hd]
      exact hV.mono (Phi.cut_mono (Nat.le_refl _) hle) _ _
/-- a load that runs behind another's write -/
theorem Inv.alt {φ0 : Phi} {w0 : World} {l : Array Bool} {φ : Phi} {a : Act} {w w' : World} (I : Inv P nt ops as E T d φ0 w0 l φ a w) {j m : Nat} {o : Oper} (hr : Rdy ops as l j m o) (hjl : j < l.size)
    {g g' : H3} {M : Nat} {φ' : Phi} {u : Value} (hW : (d j).W = []) (hn : (T j).n = (T (j + 1)).n) (hM : ∀ b x, φ.cut M b = some x → b < M)
    (hs : Step P (φ.cut M) φ' ⟨g, M, [], M⟩ ⟨g', M, [], M⟩ w w') (hlow : ∀ t, o.dst = some t → Low (T j).n (rdE (E (j + 1)) t)) (hu : ∀ t, o.dst = some t → VR φ' (rdE (E (j + 1)) t) u) :
    Inv P nt ops as E T d φ0 w0 (l.setIfInBounds j true) φ (a.put o.dst u) w' := by
  have hφ : φ'.le φ := fun b x h => by
    cases h1 : φ.cut M b with
    | some y =>
      have := hs.ext b y h1
      rw [h] at this; injection this with this; subst this
      exact (Phi.cut_some.1 h1).2
    | none =>
      have := hs.new b x h h1
      simp only at this
      omega
  have hfr : ∀ β, β < w.heap.size → w'.heap[β]? = w.heap[β]? := fun β hβ => hs.frame β hβ fun b x h _ => ⟨hM b x h, by simp⟩
  have hno : ∀ b, ¬ TB d T b j := fun b h => by
    rcases h with h | h
    · rw [hW] at h; cases h
    · omega
  exact {
    size := by simp [I.size]
    closed := I.closed' hr hjl
    ext := I.ext
    dom := fun b x h h' => by obtain ⟨i, h1, h2⟩ := I.dom b x h h'; exact ⟨i, (Ls.set hjl i).2 (.inl h1), h2⟩
    tsize := by rw [put_size]; exact I.tsize
    defers := by rw [put_defers]; exact I.defers
    slot := I.slot' C hr hjl φ.le_refl fun t ht => (hlow t ht φ u ((hu t ht).mono hφ _ _)).mono (Phi.cut_mono (by omega) φ.le_refl) _ _
    lt := fun b x h => ⟨(I.lt b x h).1, Nat.lt_of_lt_of_le (I.lt b x h).2 hs.size⟩
    heap := fun b x h => by
      obtain ⟨v, h1, h2⟩ := I.heap b x h
      exact ⟨v, (Ver.keep (Ls.set hjl) (hno b)).2 h1, by rw [hfr _ (I.lt b x h).2]; exact h2⟩
    inj := fun b c x y v v' h1 h2 h3 h4 h5 => I.inj b c x y v v' h1 h2 h3 ((Ver.keep (Ls.set hjl) (hno b)).1 h4) ((Ver.keep (Ls.set hjl) (hno c)).1 h5)
    wsize := Nat.le_trans I.wsize hs.size
    os := hs.os.trans I.os
    tape := hs.tape.trans I.tape
    output := hs.output.trans I.output
    frame := fun β hβ h => by rw [hfr β (Nat.lt_of_lt_of_le hβ I.wsize)]; exact I.frame β hβ h
    old := I.old }
/-- any other operation -/
theorem Inv.norm {φ0 : Phi} {w0 : World} {l : Array Bool} {φ : Phi} {a : Act} {w w' : World} (I : Inv P nt ops as E T d φ0 w0 l φ a w) (h0 : ∀ b, (T 0).n ≤ b → φ0 b = none) {j m : Nat} {o : Oper} (hr : Rdy ops as l j m o) (hjl : j < l.size)
    (hsee : ∀ b v x, φ b = some x → b < (T j).n → (d j).vis b → Ver (Ls l) (TB d T b) v → v ≤ j ∧ look (T j).h b = look (T v).h b)
    {g g' : H3} {φ' : Phi} {u : Value} (hg' : ∀ b, b < 262144 → (b ∈ (d j).W ∨ ((T j).n ≤ b ∧ b < (T (j + 1)).n)) → look (T (j + 1)).h b = look g' b)
    (hs : Step P (φ.cut (T j).n) φ' ⟨g, (T j).n, [], (T j).n⟩ ⟨g', (T (j + 1)).n, (d j).W, (T j).n⟩ w w') (hu : ∀ t, o.dst = some t → VR φ' (rdE (E (j + 1)) t) u) :
    ∃ φ2, Inv P nt ops as E T d φ0 w0 (l.setIfInBounds j true) φ2 (a.put o.dst u) w' := by
  have hj : j < ops.size := by rw [← I.size]; exact hjl
  have hf := C.fact j o hr.o
  have hle0 : (T 0).n ≤ (T j).n := C.mono (Nat.zero_le _) (by omega)
  -- the numbers of its new blocks are nobody's
  have hnew : ∀ b x, φ b = some x → ¬ ((T j).n ≤ b ∧ b < (T (j + 1)).n) := fun b x h hn => by
    cases h1 : φ0 b with
    | some y => rw [h0 b (by omega)] at h1; cases h1
    | none =>
      obtain ⟨i, h2, h3, h4⟩ := I.dom b x h h1
      have hi : i < ops.size := by rw [← I.size]; exact h2.lt
      rcases Nat.lt_trichotomy i j with hij | hij | hij
      · have := C.mono (i := i + 1) (j := j) hij (by omega); omega
      · exact hr.n (hij ▸ h2)
      · have := C.mono (i := j + 1) (j := i) hij (by omega); omega
  let φ2 : Phi := fun b => if (T j).n ≤ b ∧ b < (T (j + 1)).n then φ' b else φ b
  have hφ2n : ∀ b, (T j).n ≤ b ∧ b < (T (j + 1)).n → φ2 b = φ' b := fun b h => if_pos h
  have hφ2o : ∀ b, ¬ ((T j).n ≤ b ∧ b < (T (j + 1)).n) → φ2 b = φ b := fun b h => if_neg h
  have hle : φ.le φ2 := fun b x h => by rw [hφ2o b (hnew b x h)]; exact h
  have hcut : φ2.cut (T (j + 1)).n = φ' := by
    funext b
    unfold Phi.cut
    by_cases h1 : b < (T j).n
    · have hl := hf.le
      rw [if_pos (by omega), hφ2o b (by omega)]
      have hc : φ.cut (T j).n b = φ b := by unfold Phi.cut; rw [if_pos h1]
      cases h2 : φ b with
      | some x => rw [h2] at hc; exact (hs.ext b x hc).symm
      | none =>
        rw [h2] at hc
        cases h3 : φ' b with
        | none => rfl
        | some y => have := (hs.new b y h3 hc).1; simp only at this; omega
    · have hc : φ.cut (T j).n b = none := by unfold Phi.cut; rw [if_neg h1]
      by_cases h2 : b < (T (j + 1)).n
      · rw [if_pos h2, hφ2n b ⟨by omega, h2⟩]
      · rw [if_neg h2]
        cases h3 : φ' b with
        | none => rfl
        | some y => have := (hs.new b y h3 hc).2; simp only at this; omega
  have hbel : ∀ b, (b ∈ (d j).W ∨ ((T j).n ≤ b ∧ b < (T (j + 1)).n)) → b < (T (j + 1)).n := fun b h => by
    rcases h with h | h
    · have := (hf.W b h).1; have := hf.le; omega
    · exact h.2
  have hφ' : ∀ b x, φ2 b = some x → TB d T b j → φ' b = some x := fun b x h ht => by
    rw [← hcut]; exact Phi.cut_some.2 ⟨hbel b ht, h⟩
  -- a block that it wrote is alive, at the version that stands
  have hWl : ∀ b, b ∈ (d j).W → ∀ x v, φ b = some x → Ver (Ls l) (TB d T b) v → look (T v).h b ≠ .gone := fun b hb x v hx hv => by
    obtain ⟨h1, h2, h3, h4⟩ := hf.W b hb
    rw [← (hsee b v x hx h1 h4 hv).2]
    exact h3
  have vex : ∀ b x, φ b = some x → ∃ v, Ver (Ls l) (TB d T b) v := fun b x h => by obtain ⟨v, h1, _⟩ := I.heap b x h; exact ⟨v, h1⟩
  -- a new number of an old block
  have hold : ∀ b x, φ' b = some x → ¬ b < (T j).n → x.1 < w.heap.size → ∃ c y, φ c = some y ∧ y.1 = x.1 ∧ c ∈ (d j).W := fun b x h hb hlt => by
    have hc : φ.cut (T j).n b = none := by unfold Phi.cut; rw [if_neg hb]
    obtain ⟨c, y, h1, h2, h3⟩ := hs.old b x h hc hlt
    obtain ⟨h4, h5⟩ := Phi.cut_some.1 h1
    refine ⟨c, y, h5, h2, h3.resolve_left ?_⟩
    simp only
    omega
  have keep : ∀ {b v}, ¬ TB d T b j → (Ver (Ls (l.setIfInBounds j true)) (TB d T b) v ↔ Ver (Ls l) (TB d T b) v) := fun h => Ver.keep (Ls.set hjl) h
  have vnew : ∀ {b v}, TB d T b j → Ver (Ls (l.setIfInBounds j true)) (TB d T b) v → v = j + 1 := fun h k => Ver.uniq k (Ver.next (Ls.set hjl) h (I.lastB C hj hr.n h))
  -- one touched, one not
  have mixed : ∀ b c x y v', φ2 b = some x → φ c = some y → x.1 = y.1 → TB d T b j → Ver (Ls l) (TB d T c) v' → look (T v').h c ≠ .gone → b ∈ (d j).W ∧ b = c ∨ TB d T c j := fun b c x y v' h1 h2 h3 h4 h5 h6 => by
    rcases h4 with h4 | h4
    · have hb : φ b = some x := by rw [← hφ2o b (by have := (hf.W b h4).1; omega)]; exact h1
      obtain ⟨v, hv⟩ := vex b x hb
      exact .inl ⟨h4, I.inj b c x y v v' hb h2 h3 hv h5 (hWl b h4 x v hb hv) h6⟩
    · have hb : φ' b = some x := by rw [← hφ2n b h4]; exact h1
      obtain ⟨c', y', g1, g2, g3⟩ := hold b x hb (by omega) (by rw [h3]; exact (I.lt c y h2).2)
      obtain ⟨v, hv⟩ := vex c' y' g1
      have := I.inj c' c y' y v v' g1 h2 (g2.trans h3) hv h5 (hWl c' g3 y' v g1 hv) h6
      exact .inr (.inl (this ▸ g3))
  refine ⟨φ2, ?_⟩
  exact {
    size := by simp [I.size]
    closed := I.closed' hr hjl
    ext := Phi.le_trans I.ext hle
    dom := fun b x h h' => by
      by_cases hn : (T j).n ≤ b ∧ b < (T (j + 1)).n
      · exact ⟨j, (Ls.set hjl j).2 (.inr rfl), hn⟩
      · rw [hφ2o b hn] at h
        obtain ⟨i, h1, h2⟩ := I.dom b x h h'
        exact ⟨i, (Ls.set hjl i).2 (.inl h1), h2⟩
    tsize := by rw [put_size]; exact I.tsize
    defers := by rw [put_defers]; exact I.defers
    slot := I.slot' C hr hjl hle fun t ht => by rw [hcut]; exact hu t ht
    lt := fun b x h => by
      by_cases hn : (T j).n ≤ b ∧ b < (T (j + 1)).n
      · rw [hφ2n b hn] at h
        exact hs.hr.lt b x h
      · rw [hφ2o b hn] at h
        exact ⟨(I.lt b x h).1, Nat.lt_of_lt_of_le (I.lt b x h).2 hs.size⟩
    heap := fun b x h => by
      by_cases ht : TB d T b j
      · refine ⟨j + 1, Ver.next (Ls.set hjl) ht (I.lastB C hj hr.n ht), ?_⟩
        have hb := hφ' b x h ht
        have hl := hs.hr.lt b x hb
        rw [hcut, hg' b hl.1 ht]
        exact hs.hr.at_ b x hb
      · have hb : φ b = some x := by rw [← hφ2o b (fun hn => ht (.inr hn))]; exact h
        obtain ⟨v, h1, h2⟩ := I.heap b x hb
        refine ⟨v, (keep ht).2 h1, ?_⟩
        cases hgone : look (T v).h b with
        | gone => exact trivial
        | _ =>
          rw [← hgone, hs.frame x.1 (I.lt b x hb).2 fun c y hc hcy => ?_]
          · exact h2.mono (Phi.cut_mono (Nat.le_refl _) hle)
          · obtain ⟨hc1, hc2⟩ := Phi.cut_some.1 hc
            refine ⟨hc1, fun hW => ?_⟩
            obtain ⟨v', hv'⟩ := vex c y hc2
            have := I.inj c b y x v' v hc2 hb hcy hv' h1 (hWl c hW y v' hc2 hv') (by rw [hgone]; simp)
            exact ht (.inl (this ▸ hW))
    inj := fun b c x y v v' h1 h2 h3 h4 h5 h6 h7 => by
      by_cases tb : TB d T b j
      · by_cases tc : TB d T c j
        · have e1 := vnew tb h4
          have e2 := vnew tc h5
          subst e1; subst e2
          have hb := hφ' b x h1 tb
          have hc := hφ' c y h2 tc
          rw [hg' b (hs.hr.lt b x hb).1 tb] at h6
          rw [hg' c (hs.hr.lt c y hc).1 tc] at h7
          exact hs.hr.inj b c x y hb hc h3 h6 h7
        · have hc : φ c = some y := by rw [← hφ2o c (fun hn => tc (.inr hn))]; exact h2
          exact ((mixed b c x y v' h1 hc h3 tb ((keep tc).1 h5) h7).resolve_right tc).2
      · have hb : φ b = some x := by rw [← hφ2o b (fun hn => tb (.inr hn))]; exact h1
        by_cases tc : TB d T c j
        · exact ((mixed c b y x v h2 hb h3.symm tc ((keep tb).1 h4) h6).resolve_right tb).2.symm
        · have hc : φ c = some y := by rw [← hφ2o c (fun hn => tc (.inr hn))]; exact h2
          exact I.inj b c x y v v' hb hc h3 ((keep tb).1 h4) ((keep tc).1 h5) h6 h7
    wsize := Nat.le_trans I.wsize hs.size
    os := hs.os.trans I.os
    tape := hs.tape.trans I.tape
    output := hs.output.trans I.output
    frame := fun β hβ hall => by
      rw [hs.frame β (Nat.lt_of_lt_of_le hβ I.wsize) fun c y hc hcy => ?_]
      · exact I.frame β hβ hall
      · obtain ⟨hc1, hc2⟩ := Phi.cut_some.1 hc
        refine ⟨hc1, fun hW => ?_⟩
        have hwm : c < (T 0).base → c ∈ (T ops.size).w := fun hlt => C.wmono (i := j + 1) ((C.w j hj c).2 (.inr ⟨hW, hlt⟩)) hj (Nat.le_refl _)
        cases h1 : φ0 c with
        | some y' =>
          have := I.ext c y' h1
          rw [hc2] at this; injection this with this; subst this
          obtain ⟨g1, g2⟩ := hall c y h1 hcy
          exact g2 (hwm g1)
        | none =>
          obtain ⟨c0, y0, g1, g2, g3⟩ := I.old c y hc2 h1 (by rw [hcy]; exact hβ)
          obtain ⟨q1, q2⟩ := hall c0 y0 g1 (g2.trans hcy)
          rcases g3 with g3 | g3
          · omega
          · exact q2 g3
    old := fun b x h h' hlt => by
      by_cases hn : (T j).n ≤ b ∧ b < (T (j + 1)).n
      · rw [hφ2n b hn] at h
        obtain ⟨c, y, g1, g2, g3⟩ := hold b x h (by omega) (Nat.lt_of_lt_of_le hlt I.wsize)
        cases h1 : φ0 c with
        | some y' =>
          have := I.ext c y' h1
          rw [g1] at this; injection this with this; subst this
          refine ⟨c, y, h1, g2, ?_⟩
          rcases Nat.lt_or_ge c (T 0).base with hb | hb
          · exact .inr (C.wmono (i := j + 1) ((C.w j hj c).2 (.inr ⟨g3, hb⟩)) hj (Nat.le_refl _))
          · exact .inl hb
        | none =>
          obtain ⟨c0, y0, q1, q2, q3⟩ := I.old c y g1 h1 (by rw [g2]; exact hlt)
          exact ⟨c0, y0, q1, q2.trans g2, q3⟩
      · rw [hφ2o b hn] at h
        exact I.old b x h h' hlt }
end
end
end Go.Ev
namespace Go.Ev
section
variable {R : Type} {P : Program}
section
variable {nt : Nat} {ops : Array Oper} {as : List Nat} {E : Nat → E4} {T : Nat → S} {d : Nat → Dc} (C : Cx P nt ops as E T d)
include C
theorem Inv.next {φ0 : Phi} {w0 : World} {l : Array Bool} {φ : Phi} {a : Act} {w : World} {Q : Exit → Act → World → Prop} (I : Inv P nt ops as E T d φ0 w0 l φ a w) (h0 : ∀ b, (T 0).n ≤ b → φ0 b = none) (hg : Glob φ0)
    {j m : Nat} {o : Oper} (hr : Rdy ops as l j m o) (hjl : j < l.size) {K : Act → World → Prop} (hK : ∀ φ2 u w', Inv P nt ops as E T d φ0 w0 (l.setIfInBounds j true) φ2 (a.put o.dst u) w' → K (a.put o.dst u) w') :
    if Region.wanted o (yielded ops a.tmps) then o.wp P a w K Q else K (a.put o.dst undef) w := by
  have hj : j < ops.size := by rw [← I.size]; exact hjl
  have hf := C.fact j o hr.o
  have hpos : 0 < (T 0).n := by
    obtain ⟨x, hx, _⟩ := hg
    rcases Nat.lt_or_ge 0 (T 0).n with h | h
    · exact h
    · rw [h0 0 h] at hx; cases hx
  have glob : ∀ M, (T 0).n ≤ M → Glob (φ.cut M) := fun M hM => by
    obtain ⟨x, hx, hx1⟩ := hg
    exact ⟨x, Phi.cut_some.2 ⟨by omega, I.ext 0 x hx⟩, hx1⟩
  have cutn : ∀ M b, M ≤ b → φ.cut M b = none := fun M b h => by unfold Phi.cut; rw [if_neg (by omega)]
  have hle0 : (T 0).n ≤ (T j).n := C.mono (Nat.zero_le _) (by omega)
  by_cases hal : ∃ b x v i, φ b = some x ∧ b < (T j).n ∧ (d j).vis b ∧ Ver (Ls l) (TB d T b) v ∧ v = i + 1 ∧ Ls l i ∧ j < i ∧ b ∈ (d i).W
  · obtain ⟨b, x, v, i, hx, hbj, hvis, hv, rfl, hi, hji, hW⟩ := hal
    have him : i < ops.size := by rw [← I.size]; exact hi.lt
    obtain ⟨mi, hmi⟩ : ∃ mi, as[i]? = some mi := ⟨_, List.getElem?_eq_getElem (by rw [C.masks.len]; simpa using him)⟩
    have hbit : mi.testBit j = false := by
      cases h : mi.testBit j with
      | true => exact absurd (I.closed i mi hi hmi j h) hr.n
      | false => rfl
    have hp := C.pair j i mi hji hmi hbit
    cases hall : (d j).all with
    | true =>
      have h1 := hp.all hall b hW
      rw [hf.n'] at h1
      have := hf.le
      omega
    | false =>
      have hbF : b ∈ (d j).F := hvis.resolve_left (by rw [hall]; simp)
      obtain ⟨_, _, h3⟩ := hp.some hall b hW
      obtain ⟨q1, q2, q3, q4⟩ := h3 hbF
      obtain ⟨hlow, g, g', hgl, H⟩ := hf.alt _ _ q4
      have hM : (T j).n ≤ (T (i + 1)).n := C.mono (by omega) (by omega)
      have hn : (T j).n = (T (j + 1)).n := by rw [← hf.n, ← hf.n', q3]
      refine H (φ.cut (T (i + 1)).n) a w K Q (fun b h => cutn _ b h) (glob _ (by omega)) I.tsize (fun t h1 h2 => (I.slots C hr.o hr.n hr.mask hr.anc h1 h2).mono (Phi.cut_mono hM φ.le_refl) _ _) ?_ fun φ' u w' hs hd => ?_
      · have hone : ∀ c, c < 262144 → look g c ≠ .gone → c = b := fun c hc h => by
          rw [hgl c hc, q1] at h
          by_cases hcb : c = b
          · exact hcb
          · rw [if_neg (by simpa using hcb)] at h; exact absurd rfl h
        exact {
          lt := fun c y h => I.lt c y (Phi.cut_some.1 h).2
          at_ := fun c y h => by
            obtain ⟨h1, h2⟩ := Phi.cut_some.1 h
            by_cases hc : look g c = .gone
            · show BR P _ _ _ (look g c) _
              rw [hc]; exact trivial
            · have := hone c (I.lt c y h2).1 hc
              subst this
              rw [hx] at h2; injection h2 with h2; subst h2
              obtain ⟨v', g1, g2⟩ := I.heap c x hx
              have := hv.uniq g1
              subst this
              show BR P _ _ _ (look g c) _
              rw [hgl c (I.lt c x hx).1, if_pos hbF]
              exact g2
          inj := fun c e y z h1 h2 _ h4 h5 => (hone c (I.lt c y (Phi.cut_some.1 h1).2).1 h4).trans (hone e (I.lt e z (Phi.cut_some.1 h2).2).1 h5).symm }
      · exact hK φ u w' (I.alt C hr hjl q2 hn (fun b x h => (Phi.cut_some.1 h).1) hs hlow hd)
  · have hsee : ∀ b v x, φ b = some x → b < (T j).n → (d j).vis b → Ver (Ls l) (TB d T b) v → v ≤ j ∧ look (T j).h b = look (T v).h b := fun b v x hx hb hvis hv => by
      rcases I.sees C h0 hj hr.n hr.mask hr.anc hx hb hvis hv with h | ⟨i, h1, h2, h3, h4⟩
      · exact h
      · exact absurd ⟨b, x, v, i, hx, hb, hvis, hv, h1, h2, h3, h4⟩ hal
    obtain ⟨g, g', hg1, hg2, hg3, H⟩ := hf.spec
    refine H (φ.cut (T j).n) a w K Q (fun b h => cutn _ b h) (glob _ hle0) I.tsize (fun t h1 h2 => I.slots C hr.o hr.n hr.mask hr.anc h1 h2) ?_ fun φ' u w' hs hd => ?_
    · have hlive : ∀ c y v, φ c = some y → c < (T j).n → look g c ≠ .gone → Ver (Ls l) (TB d T c) v → look g c = look (T v).h c ∧ v ≤ j := fun c y v hc hcj h hv => by
        have hc1 := (I.lt c y hc).1
        by_cases hvis : (d j).vis c
        · have := hsee c v y hc hcj hvis hv
          exact ⟨by rw [hg1 c hc1 hcj hvis, this.2], this.1⟩
        · exact absurd (hg2 c hc1 hcj hvis) h
      exact {
        lt := fun c y h => I.lt c y (Phi.cut_some.1 h).2
        at_ := fun c y h => by
          obtain ⟨h1, h2⟩ := Phi.cut_some.1 h
          by_cases hc : look g c = .gone
          · show BR P _ _ _ (look g c) _
            rw [hc]; exact trivial
          · obtain ⟨v, g1, g2⟩ := I.heap c y h2
            obtain ⟨g3, g4⟩ := hlive c y v h2 h1 hc g1
            show BR P _ _ _ (look g c) _
            rw [g3]
            exact g2.mono (Phi.cut_mono (C.mono g4 (by omega)) φ.le_refl)
        inj := fun c e y z h1 h2 h3 h4 h5 => by
          obtain ⟨a1, a2⟩ := Phi.cut_some.1 h1
          obtain ⟨b1, b2⟩ := Phi.cut_some.1 h2
          obtain ⟨v, g1, _⟩ := I.heap c y a2
          obtain ⟨v', g2, _⟩ := I.heap e z b2
          exact I.inj c e y z v v' a2 b2 h3 g1 g2 (by rw [← (hlive c y v a2 a1 h4 g1).1]; exact h4) (by rw [← (hlive e z v' b2 b1 h5 g2).1]; exact h5) }
    · obtain ⟨φ2, h2⟩ := I.norm C h0 hr hjl hsee hg3 hs hd
      exact hK φ2 u w' h2
theorem Inv.run {φ0 : Phi} {w0 : World} {Q : Exit → Act → World → Prop} (h0 : ∀ b, (T 0).n ≤ b → φ0 b = none) (hg : Glob φ0)
    (hQ : ∀ l φ a w, (∀ i, i < ops.size → Ls l i) → Inv P nt ops as E T d φ0 w0 l φ a w → Q .normal a w) :
    ∀ (fuel : Nat) (todo : List Nat) (l : Array Bool) (φ : Phi) (a : Act) (w : World), todo.length ≤ fuel → (∀ i, i < ops.size → ¬ Ls l i → i ∈ todo) → Inv P nt ops as E T d φ0 w0 l φ a w → wpAny P .any ops Q fuel l a w := by
  -- one more is ready, or all are listed
  have prog : ∀ (l : Array Bool), l.size = ops.size → Region.ready .any ops l = [] → ∀ i, i < ops.size → Ls l i := fun l hl hr i => by
    induction i using Nat.strongRecOn with
    | ind i ih =>
      intro hi
      have hil : i < l.size := by rw [hl]; exact hi
      cases hb : l[i] with
      | true => unfold Ls; rw [Array.getElem?_eq_getElem hil, hb]
      | false =>
        exfalso
        have : i ∈ Region.ready .any ops l := by
          refine mem_ready.2 ⟨by simp [hil, hb], ops[i], Array.getElem?_eq_getElem hi, fun e he hbd => ?_⟩
          have hlt := C.masks.lt i ops[i] (by simp [Array.getElem?_eq_getElem hi]) e (by simpa using he) hbd
          have := ih e.on hlt (by omega)
          unfold Ls at this
          simp [Array.getD_eq_getD_getElem?, this]
        rw [hr] at this
        cases this
  have allReady : ∀ (l : Array Bool), l.size = ops.size → (∀ i, i < ops.size → Ls l i) → Region.ready .any ops l = [] := fun l hl hall => by
    cases hr : Region.ready .any ops l with
    | nil => rfl
    | cons i r =>
      have hi : i ∈ Region.ready .any ops l := by rw [hr]; exact List.mem_cons_self
      obtain ⟨h1, o, h2, _⟩ := mem_ready.1 hi
      exact absurd (hall i (Array.getElem?_eq_some_iff.1 h2).1) (Ls.not h1)
  intro fuel
  induction fuel with
  | zero =>
    intro todo l φ a w ht hc I
    have hall : ∀ i, i < ops.size → Ls l i := fun i hi => by
      by_cases h : Ls l i
      · exact h
      · have := hc i hi h
        rw [List.eq_nil_of_length_eq_zero (Nat.le_zero.1 ht)] at this
        cases this
    exact ⟨allReady l I.size hall, hQ l φ a w hall I⟩
  | succ fuel ih =>
    intro todo l φ a w ht hc I
    refine ⟨fun hr => hQ l φ a w (prog l I.size hr) I, fun j hj => ?_⟩
    obtain ⟨h1, o, h2, h3⟩ := mem_ready.1 hj
    have hjm : j < ops.size := (Array.getElem?_eq_some_iff.1 h2).1
    have hjl : j < l.size := by rw [I.size]; exact hjm
    obtain ⟨m, hm⟩ : ∃ m, as[j]? = some m := ⟨_, List.getElem?_eq_getElem (by rw [C.masks.len]; simpa using hjm)⟩
    have hnj := Ls.not h1
    have hon : ∀ e ∈ o.after.toList, Region.binds .any e = true → Ls l e.on := fun e he hb => by
      have := h3 e (by simpa using he) hb
      unfold Ls
      rw [Array.getD_eq_getD_getElem?] at this
      cases hx : l[e.on]? with
      | none => rw [hx] at this; cases this
      | some y => rw [hx] at this; rw [show y = true from this]
    have hr : Rdy ops as l j m o := ⟨h2, hnj, hm, fun k hk => by
      obtain ⟨e, he, hb, h4⟩ := C.masks.bit j o m (by simpa using h2) hm k hk
      rcases h4 with h4 | ⟨m', h4, h5⟩
      · rw [← h4]; exact hon e he hb
      · exact I.closed e.on m' (hon e he hb) h4 k h5⟩
    unfold wpOp
    rw [h2]
    simp only
    have hjt : j ∈ todo := hc j hjm hnj
    have := I.next C (Q := Q) h0 hg hr hjl (K := wpAny P .any ops Q fuel (l.setIfInBounds j true)) fun φ2 u w' h => ih (todo.erase j) _ φ2 _ w' (by rw [List.length_erase_of_mem hjt]; omega) (fun i hi hni => ?_) h
    · split at this
      · rename_i hw; rw [if_pos hw]; exact .inl this
      · rename_i hw; rw [if_neg hw]; exact this
    · rw [Ls.set hjl] at hni
      have hij : i ≠ j := fun e => hni (.inr e)
      exact (List.mem_erase_of_ne hij).2 (hc i hi fun h => hni (.inl h))
end
theorem drawn_spec (hm : P.follows .mixedOrders = true) : DSpec P (drawn P : Nat → Array Oper → DR R) := by
  intro nt ops rec hrec e s k r hb h
  unfold drawn at h
  cases hc : (cRegD P nt ops : Option (List (DOp R))) with
  | none => rw [hc] at h; cases h
  | some ls =>
  rw [hc] at h
  have h : runD rec k ls 0 [] [] e s = some r := h
  unfold cRegD at hc
  split at hc
  · rename_i as has
    cases hap : apAll ops [] ops.toList as with
    | false => rw [hap] at hc; cases hc
    | true =>
    rw [hap] at hc
    injection hc with hc
    subst hc
    have hM := masks_some has
    obtain ⟨E, T, d, g1, g2, g3, g4, g5, g6⟩ := runD_some hrec ops.toList as 0 [] [] e s hM.len hb (fun c hc => by cases hc) h
    simp only [Nat.zero_add] at g3 g4 g5 g6
    rw [Array.length_toList] at g3 g4
    subst g1; subst g2
    have C : Cx P nt ops as E T d := {
      fact := fun j o ho => (g5 j o (by simpa using ho)).2.1
      w := fun j hj => (g5 j ops[j] (by simp [hj])).2.2
      pair := fun i k m hik hk hbit => by
        refine g6 k m hk (d i) (.inr ⟨i, hik, rfl⟩) ?_
        have hkl := (List.getElem?_eq_some_iff.1 hk).1
        rw [hM.len, Array.length_toList] at hkl
        rw [(g5 i ops[i] (by simp [show i < ops.size by omega])).1]
        exact hbit
      masks := hM
      apart := fun i j x y A hij hx hy hA hbit => apAll_some ops.toList [] as hap i j x y A (by simpa using hij) (by simpa using hx) (by simpa using hy) hA hbit }
    refine ⟨E ops.size, T ops.size, g3, g4, fun id φ a w Q hf hg he HH hQ => wp_region_any hm ?_⟩
    have none_ : ∀ i, ¬ Ls (Array.replicate ops.size false) i := fun i h => by
      unfold Ls at h
      rw [Array.getElem?_replicate] at h
      split at h
      · cases h
      · cases h
    have v0 : ∀ X, Ver (Ls (Array.replicate ops.size false)) X 0 := fun X => .inl ⟨rfl, fun i h => absurd h (none_ i)⟩
    have v0' : ∀ X v, Ver (Ls (Array.replicate ops.size false)) X v → v = 0 := fun X v h => h.uniq (v0 X)
    have hcut : φ.cut (T 0).n = φ := by
      funext b
      unfold Phi.cut
      split
      · rfl
      · rw [hf b (by omega)]
    have I : Inv P nt ops as E T d φ w (Array.replicate ops.size false) φ a { w with drawn := w.drawn + 1 } := {
      size := by simp
      closed := fun i m h => absurd h (none_ i)
      ext := φ.le_refl
      dom := fun b x h h' => by rw [h] at h'; cases h'
      tsize := he.size
      defers := he.defers
      slot := fun t ht => ⟨0, v0 _, by rw [hcut]; exact he.at_ t ht⟩
      lt := HH.lt
      heap := fun b x h => ⟨0, v0 _, by rw [hcut]; exact HH.at_ b x h⟩
      inj := fun b c x y v v' h1 h2 h3 h4 h5 h6 h7 => by
        have e1 := v0' _ _ h4; have e2 := v0' _ _ h5
        subst e1; subst e2
        exact HH.inj b c x y h1 h2 h3 h6 h7
      wsize := Nat.le_refl _
      os := rfl
      tape := rfl
      output := rfl
      frame := fun _ _ _ => rfl
      old := fun b x h h' => by rw [h] at h'; cases h' }
    refine Inv.run C hf hg (fun l φ' a' w' hall I' => ?_) ops.size (List.range ops.size) _ φ a _ (by simp) (fun i hi _ => by simpa using hi) I
    -- all are listed
    have top : ∀ {b v x}, φ' b = some x → Ver (Ls l) (TB d T b) v → v ≤ ops.size ∧ look (T ops.size).h b = look (T v).h b := fun {b v x} hx hv => by
      obtain ⟨h1, h2⟩ := I'.below C hf hx hv
      refine ⟨h1, C.same (I'.lt b x hx).1 h2 h1 (Nat.le_refl _) fun q hq hq2 ht => ?_⟩
      rcases hv with ⟨rfl, hv⟩ | ⟨i, rfl, _, _, hv⟩
      · exact hv q (hall q hq2) ht
      · have := hv q (hall q hq2) ht; omega
    refine hQ φ' a' w' ?_ ?_
    · exact {
        ext := I'.ext
        new := fun b x h h' => by
          obtain ⟨i, h1, h2, h3⟩ := I'.dom b x h h'
          have hi : i < ops.size := by rw [← I'.size]; exact h1.lt
          have := C.mono (i := 0) (j := i) (Nat.zero_le _) (by omega)
          have := C.mono (i := i + 1) (j := ops.size) hi (Nat.le_refl _)
          omega
        hr := {
          lt := I'.lt
          at_ := fun b x h => by
            obtain ⟨v, h1, h2⟩ := I'.heap b x h
            rw [(top h h1).2]
            exact h2.mono (Phi.cut_le _ _)
          inj := fun b c x y h1 h2 h3 h4 h5 => by
            obtain ⟨v, q1, _⟩ := I'.heap b x h1
            obtain ⟨v', q2, _⟩ := I'.heap c y h2
            rw [(top h1 q1).2] at h4
            rw [(top h2 q2).2] at h5
            exact I'.inj b c x y v v' h1 h2 h3 q1 q2 h4 h5 }
        size := I'.wsize
        os := I'.os
        tape := I'.tape
        output := I'.output
        frame := fun β hβ h => I'.frame β hβ h
        old := I'.old }
    · exact {
        size := I'.tsize
        defers := I'.defers
        at_ := fun t ht => by
          obtain ⟨v, hv, hV⟩ := I'.slot t ht
          have hvm : v ≤ ops.size := by
            rcases hv with ⟨rfl, _⟩ | ⟨i, rfl, h1, _⟩
            · exact Nat.zero_le _
            · rw [← I'.size]; exact h1.lt
          rw [C.sameE ht hvm (Nat.le_refl _) fun q hq hq2 hts => ?_]
          · exact hV.mono (Phi.cut_le _ _) _ _
          · rcases hv with ⟨rfl, hv⟩ | ⟨i, rfl, _, _, hv⟩
            · exact hv q (hall q hq2) hts
            · have := hv q (hall q hq2) hts; omega }
  · cases hc
end
end Go.Ev
namespace Go.Ev
section
variable {R : Type} {P : Program}
/-- nothing that stood there changed -/
theorem Step.keep {φ : Phi} {s : S} {w w' : World} (H : HR P φ s.h w) (hs : w.heap.size ≤ w'.heap.size) (hos : w'.os = w.os) (ht : w'.tape = w.tape) (hout : w'.output = w.output) (hfar : ∀ β, β < w.heap.size → w'.heap[β]? = w.heap[β]?) : Step P φ φ s s w w' where
  ext := φ.le_refl
  new := fun _ _ h k => by rw [h] at k; cases k
  hr := ⟨fun b x h => ⟨(H.lt b x h).1, Nat.lt_of_lt_of_le (H.lt b x h).2 hs⟩, fun b x h => by rw [hfar _ (H.lt b x h).2]; exact H.at_ b x h, H.inj⟩
  size := hs
  os := hos
  tape := ht
  output := hout
  frame := fun β hβ _ => hfar β hβ
  old := fun _ _ h k _ => by rw [h] at k; cases k
/-- and one new block has a number -/
theorem Step.fresh {s : S} {bl : Blk} {φ : Phi} {w w' : World} {g es N : Nat} (hn : s.n < 262144) (hφ : φ s.n = Option.none) (H : HR P φ s.h w)
    (hs : w.heap.size ≤ w'.heap.size) (hos : w'.os = w.os) (ht : w'.tape = w.tape) (hout : w'.output = w.output) (hfar : ∀ β, β < w.heap.size → w'.heap[β]? = w.heap[β]?)
    (hg : w.heap.size ≤ g) (hg2 : g < w'.heap.size) (hB : BR P φ es N bl w'.heap[g]?) : Step P φ (addPhi φ s.n (g, es, N)) s (newS s bl) w w' where
  ext := addPhi_le hφ
  new := fun b x h k => by
    unfold addPhi at h
    split at h
    · rename_i e; subst e; exact ⟨Nat.le_refl _, Nat.lt_succ_self _⟩
    · rw [k] at h; cases h
  hr := {
    lt := fun b x h => by
      unfold addPhi at h
      split at h
      · rename_i e; subst e; injection h with h; subst h; exact ⟨hn, hg2⟩
      · have := H.lt b x h; exact ⟨this.1, by omega⟩
    at_ := fun b x h => by
      unfold addPhi at h
      split at h
      · rename_i e; subst e; injection h with h; subst h
        unfold newS
        simp only [look_upd _ _ hn hn, if_true]
        exact hB.mono (addPhi_le hφ)
      · rename_i e
        have h1 := H.lt b x h
        unfold newS
        simp only [look_upd _ _ hn h1.1]
        rw [if_neg (fun e' => e e'.symm), hfar _ h1.2]
        exact (H.at_ b x h).mono (addPhi_le hφ)
    inj := fun b c x y hb hc hxy lb lc => by
      unfold addPhi at hb hc
      by_cases eb : b = s.n
      · by_cases ec : c = s.n
        · rw [eb, ec]
        · rw [if_pos eb] at hb; rw [if_neg ec] at hc
          injection hb with hb; subst hb
          have := H.lt c y hc
          simp only [] at hxy
          omega
      · rw [if_neg eb] at hb
        have h1 := H.lt b x hb
        by_cases ec : c = s.n
        · rw [if_pos ec] at hc
          injection hc with hc; subst hc
          simp only [] at hxy
          omega
        · rw [if_neg ec] at hc
          have h2 := H.lt c y hc
          unfold newS at lb lc
          simp only [look_upd _ _ hn h1.1, look_upd _ _ hn h2.1] at lb lc
          rw [if_neg (fun e => eb e.symm)] at lb
          rw [if_neg (fun e => ec e.symm)] at lc
          exact H.inj b c x y hb hc hxy lb lc }
  size := hs
  os := hos
  tape := ht
  output := hout
  frame := fun β hβ _ => hfar β hβ
  old := fun b x h k hlt => by
    unfold addPhi at h
    split at h
    · injection h with h; subst h; exact absurd hlt (by simp only; omega)
    · rw [k] at h; cases h
/-- a contract of a function that has a body -/
theorem CallW.of {g : Nat} {us : List Value} {w : World} {K : Value → World → Prop} (eg : ∀ args w, (callFunc g args).run P w = .ok (.enter g args) w) (h : Calls P g us.toArray w fun e w' => ∃ v, e = .returned v ∧ K v w') : CallW P g us w K := by
  unfold CallW
  rw [eg]
  refine h.mono fun e w' he => ?_
  obtain ⟨v, rfl, hk⟩ := he
  exact hk
/-- a strings' order: minus one, nought, one -/
noncomputable def hkCmp : HK R := ⟨fun args s k => onS (hd args 0) fun n a => onS (hd args 1) fun m b => iff (Nat.beq (lenN args) 2) (iff (lltL a b) (k (.vg 3 0) s) (iff (eqS n a m b) (k (.vi 3 0) s) (k (.vi 3 1) s))) none⟩
/-- strings.Builder's copyCheck: the first word of the variable is its own address, or is made so -/
noncomputable def hkCheck (ty : Nat) : HK R := ⟨fun args s k => onP (hd args 0) fun b o => iff (Nat.beq (lenN args) 1) (iff (Nat.beq o 0) (getH s.h b fun bl => onC bl fun ty' n fz pg => iff (Nat.beq ty' ty) (iff (Nat.blt 1 n) (iff (Nat.beq fz 0) (getP pg 0 fun v => match v with
  | .pn => storeC s b 0 [.vp b 0] fun s => k (.vt []) s
  | .vp b' o' => iff (Nat.beq b' b) (iff (Nat.beq o' 0) (k (.vt []) s) none) none
  | _ => none) none) none) none) none) none⟩
/-- slices.Insert of one element: into a slice, into nil -/
noncomputable def insSo (es ty : Nat) (i vb : Nat) (s : S) (k : V → S → Option R) (b n : Nat) : Option R :=
  iff (Nat.beq b vb) none (getH s.h b fun bl => onC bl fun ty' m fz pg => getH s.h vb fun bv => onC bv fun ty2 m2 fz2 pg2 => iff (andB (Nat.beq ty' ty) (andB (Nat.beq ty2 ty) (andB (Nat.beq fz 0) (andB (Nat.beq fz2 0) (andB (Nat.ble i n) (Nat.ble n 1000000))))))
      (natF (Nat.mul n es) fun ne => iff (andB (Nat.ble ne m) (Nat.ble es m2)) (getsP pg ne 0 fun old => getsP pg2 es 0 fun new => natF (Nat.mul i es) fun ie => natF (Nat.add ne es) fun sz => natF (Nat.succ n) fun n1 =>
        wrote s b .gone fun s => row s ty sz (old.take ie ++ new ++ old.drop ie) fun b' s => k (.so b' 0 n1) s) none) none)
noncomputable def insSn (es ty : Nat) (i vb : Nat) (s : S) (k : V → S → Option R) : Option R :=
  getH s.h vb fun bv => onC bv fun ty2 m2 fz2 pg2 => iff (andB (Nat.beq ty2 ty) (andB (Nat.beq fz2 0) (andB (Nat.beq i 0) (Nat.ble es m2)))) (getsP pg2 es 0 fun new => row s ty es new fun b' s => k (.so b' 0 1) s) none
noncomputable def hkIns (es ty : Nat) : HK R := ⟨fun args s k => onI (hd args 1) fun kd i => iff (andB (Nat.beq kd 3) (Nat.beq (lenN args) 3)) (onL (hd args 2)
  (fun vb o2 n2 c2 => iff (andB (Nat.beq o2 0) (andB (Nat.beq n2 1) (Nat.beq c2 1))) (onL (hd args 0) (fun _ _ _ _ => none) (fun b o n => iff (Nat.beq o 0) (insSo es ty i vb s k b n) none) (insSn es ty i vb s k)) none) (fun _ _ _ => none) none) none⟩
end
end Go.Ev
