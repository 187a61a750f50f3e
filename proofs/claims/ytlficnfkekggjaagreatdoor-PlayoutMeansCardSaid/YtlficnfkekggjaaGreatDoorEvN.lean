
/-
  Each operation is sound: append.
  Each operation is sound: append, its arms.
  Each operation is sound: the builtins.
  Each operation is sound: clear, unsafe.String; calls.
  Each operation is sound: calls; all operations.
  Each operation is sound: all of them.
-/
import Derived.Test.YtlficnfkekggjaaGreatDoorEvJ
import Derived.Deep.AppendSrc
import Derived.Deep.Upon
import Derived.Lib.UnsafeStr
import Derived.Laws.Small
namespace Go.Ev
section
variable {R : Type} {P : Program}
theorem Step.drew {φ φ' : Phi} {s s' : S} {w w' : World} (h : Step P φ φ' s s' w.drew w') : Step P φ φ' s s' w w' :=
  ⟨h.ext, h.new, h.hr, h.size, h.os, h.tape, h.output, h.frame, h.old⟩
/-- the cells of a slice -/
theorem cellsC_some {s : S} {es b o n : Nat} {k : List V → Option R} {r : R} (h : cellsC s es b o n k = some r) :
    ∃ l, k l = some r ∧ l.length = n * es ∧ ∀ φ w x, HR P φ s.h w → φ b = some x → ∃ news : List Value, VRs φ l news ∧ (∀ u ∈ news, u.oneCell' = true) ∧ ∀ j u, news[j]? = some u → w.cell? ⟨x.1, o + j, none⟩ = some u := by
  unfold cellsC at h
  obtain ⟨hb, h⟩ := getH_some h
  obtain ⟨ty, m, fz, pg, hl, h⟩ := onC_some h
  rw [natF_eq] at h
  obtain ⟨h1, h⟩ := iff_some h
  rw [getsP_eq] at h
  have h1 : o + n * es ≤ m := ble_of h1
  refine ⟨_, h, cells_len _ _ _, fun φ w x HH hx => ?_⟩
  have := HH.at_ b x hx
  rw [hl] at this
  obtain ⟨arr, lo, hi, ho, hsz, _, hN, _, hc⟩ := this
  let us : List Value := (List.range (n * es)).map fun i => (arr[o + i]?).getD undef
  have hlen : us.length = n * es := by simp [us]
  have hat : ∀ i u, us[i]? = some u → arr[o + i]? = some u ∧ VR φ (cell pg (o + i)) u ∧ u.oneCell' = true := fun i u hu => by
    have hi : i < n * es := by have := (List.getElem?_eq_some_iff.1 hu).1; omega
    obtain ⟨u', h1, h2, h3⟩ := hc (o + i) (by omega)
    have : us[i]? = some u' := by simp [us, hi, h1]
    rw [this] at hu; injection hu with hu; subst hu
    exact ⟨h1, h2, h3⟩
  refine ⟨us, VRs.mk (by rw [hlen]; exact (cells_len _ _ _).symm) fun i v u h1 h2 => ?_, fun u hu => ?_, fun j u hu => ?_⟩
  · have hi : i < n * es := by have := (List.getElem?_eq_some_iff.1 h2).1; omega
    have h1 : (cells pg o (n * es))[i]? = some v := h1
    rw [cells_at pg _ o i hi] at h1
    injection h1 with h1; subst h1
    exact (hat i u h2).2.1
  · obtain ⟨i, hi⟩ := List.getElem?_of_mem hu
    exact (hat i u hi).2.2
  · rw [cell_row ho]
    exact (hat j u hu).1
/-- a block that goes on under a new number -/
theorem moveG_step {s : S} {b : Nat} {bl : Blk} {φ : Phi} {w w' : World} {x : Nat × Nat × Nat} (hb : φ b = some x) (hl : look s.h b ≠ .gone) (hn : s.n < 262144) (hφ : φ s.n = none) (H : HR P φ s.h w)
    (hs : w.heap.size ≤ w'.heap.size) (hos : w'.os = w.os) (ht : w'.tape = w.tape) (hout : w'.output = w.output) (hfar : ∀ β, β < w.heap.size → β ≠ x.1 → w'.heap[β]? = w.heap[β]?) (hB : BR P φ x.2.1 x.2.2 bl w'.heap[x.1]?) :
    Step P φ (addPhi φ s.n x) s (newS (wrS s b .gone) bl) w w' := by
  have h0 := H.lt b x hb
  have hne : b ≠ s.n := fun e => by rw [e, hφ] at hb; cases hb
  have lk : ∀ c, c < 262144 → look (newS (wrS s b .gone) bl).h c = if s.n = c then bl else if b = c then .gone else look s.h c := fun c hc => by
    show look (updH (updH s.h b .gone) s.n bl) c = _
    rw [look_upd _ _ hn hc, look_upd _ _ h0.1 hc]
  refine {
    ext := addPhi_le hφ
    new := fun c y h k => ?_
    hr := { lt := fun c y h => ?_, at_ := fun c y h => ?_, inj := fun c d y z hc hd hyz lc ld => ?_ }
    size := hs
    os := hos
    tape := ht
    output := hout
    frame := fun β hβ hall => ?_
    old := fun c y h k hlt => ?_ }
  · unfold addPhi at h
    split at h
    · rename_i e; subst e; exact ⟨Nat.le_refl _, Nat.lt_succ_self _⟩
    · rw [k] at h; cases h
  · unfold addPhi at h
    split at h
    · rename_i e; subst e; injection h with h; subst h; exact ⟨hn, Nat.lt_of_lt_of_le h0.2 hs⟩
    · exact ⟨(H.lt c y h).1, Nat.lt_of_lt_of_le (H.lt c y h).2 hs⟩
  · unfold addPhi at h
    split at h
    · rename_i e; subst e; injection h with h; subst h
      rw [lk _ hn, if_pos rfl]
      exact hB.mono (addPhi_le hφ)
    · rename_i e
      have h1 := H.lt c y h
      rw [lk _ h1.1, if_neg (fun e' => e e'.symm)]
      split
      · trivial
      · rename_i e2
        by_cases hy : y.1 = x.1
        · cases hlk : look s.h c with
          | gone => trivial
          | _ => exact absurd (H.inj b c x y hb h hy.symm hl (by rw [hlk]; simp)) e2
        · rw [hfar y.1 h1.2 hy]
          exact (H.at_ c y h).mono (addPhi_le hφ)
  · unfold addPhi at hc hd
    by_cases ec : c = s.n
    · by_cases ed : d = s.n
      · rw [ec, ed]
      · rw [if_pos ec] at hc; rw [if_neg ed] at hd
        injection hc with hc; subst hc
        have h1 := H.lt d z hd
        rw [lk _ h1.1, if_neg (fun e' => ed e'.symm)] at ld
        split at ld
        · exact absurd rfl ld
        · rename_i e2; exact absurd (H.inj b d x z hb hd hyz hl ld) e2
    · rw [if_neg ec] at hc
      have h1 := H.lt c y hc
      rw [lk _ h1.1, if_neg (fun e' => ec e'.symm)] at lc
      by_cases ed : d = s.n
      · rw [if_pos ed] at hd
        injection hd with hd; subst hd
        split at lc
        · exact absurd rfl lc
        · rename_i e2; exact absurd (H.inj b c x y hb hc hyz.symm hl lc) e2
      · rw [if_neg ed] at hd
        have h2 := H.lt d z hd
        rw [lk _ h2.1, if_neg (fun e' => ed e'.symm)] at ld
        split at lc
        · exact absurd rfl lc
        · split at ld
          · exact absurd rfl ld
          · exact H.inj c d y z hc hd hyz lc ld
  · by_cases e : β = x.1
    · have := hall b x hb e.symm
      exact absurd ((wr_mem _ _ _ _).2 (.inr ⟨rfl, this.1⟩)) this.2
    · exact hfar β hβ e
  · unfold addPhi at h
    split at h
    · injection h with h; subst h
      refine ⟨b, x, hb, rfl, ?_⟩
      by_cases hbb : b < s.base
      · exact .inr ((wr_mem _ _ _ _).2 (.inr ⟨rfl, hbb⟩))
      · exact .inl (by omega)
    · rw [k] at h; cases h
theorem moveS_step {s : S} {b : Nat} {bl : Blk} {φ : Phi} {w w' : World} {x : Nat × Nat × Nat} (hb : φ b = some x) (hl : look s.h b ≠ .gone) (hn : s.n < 262144) (hφ : φ s.n = none) (H : HR P φ s.h w)
    (hs : w'.heap.size = w.heap.size) (hos : w'.os = w.os) (ht : w'.tape = w.tape) (hout : w'.output = w.output) (hfar : ∀ β, β ≠ x.1 → w'.heap[β]? = w.heap[β]?) (hB : BR P φ x.2.1 x.2.2 bl w'.heap[x.1]?) :
    Step P φ (addPhi φ s.n x) s (newS (wrS s b .gone) bl) w w' := moveG_step hb hl hn hφ H (Nat.le_of_eq hs.symm) hos ht hout (fun β _ => hfar β) hB
theorem isSeq_kind {tx : Nat} (h : isSeq P tx = true) : (∃ e', P.underlying tx = some (.slice e')) ∨ P.underlying tx = some .string := by
  unfold isSeq at h
  split at h
  · rename_i e he; exact .inl ⟨e, he⟩
  · rename_i he; exact .inr he
  · cases h
theorem addr_add (β o j : Nat) : (⟨β, o, none⟩ : Addr).add j = ⟨β, o + j, none⟩ := Addr.add_lit ..
/-- what is appended -/
theorem srcC_some {s : S} {es : Nat} {v : V} {k : Nat → List V → Option R} {r : R} (h : srcC s es v k = some r) :
    ∃ c l, k c l = some r ∧ l.length = c * es ∧ ∀ φ w u tx, HR P φ s.h w → VR φ v u → isSeq P tx = true → ∃ news, VRs φ l news ∧ Src P es tx u c news w := by
  have sl : ∀ b o n, cellsC s es b o n (k n) = some r → ∃ l, k n l = some r ∧ l.length = n * es ∧ ∀ φ w x cp tx, HR P φ s.h w → φ b = some x → isSeq P tx = true → ∃ news, VRs φ l news ∧ Src P es tx (.slice (some ⟨x.1, o, none⟩) n cp) n news w := fun b o n h => by
    obtain ⟨l, h1, h2, H⟩ := cellsC_some (P := P) h
    refine ⟨l, h1, h2, fun φ w x cp tx HH hx ht => ?_⟩
    obtain ⟨news, n1, n2, n3⟩ := H φ w x HH hx
    have hl : news.length = n * es := by rw [n1.len, h2]
    have hn : ∀ j u, news[j]? = some u → w.cell? ((⟨x.1, o, none⟩ : Addr).add j) = some u := fun j u hu => by rw [addr_add]; exact n3 j u hu
    exact ⟨news, n1, isSeq_kind ht, fun _ => rfl, run_firstCells_some w es n _ n cp news hl hn, run_firstCells_some w.drew es n _ n cp news hl (by simpa using hn), hl, n2⟩
  cases v with
  | vs n l =>
    obtain ⟨g1, g⟩ := iff_some (show iff (Nat.beq es 1) (iff (Nat.beq (lenN l) n) (k n (l.map fun c => .vi 4 c)) none) none = some r from h)
    obtain ⟨g2, g3⟩ := iff_some g
    have g1 := beq_of g1
    rw [lenN_eq] at g2
    have hn := beq_of g2
    subst g1
    refine ⟨n, l.map fun c => .vi 4 c, g3, ?_⟩
    · refine ⟨by simp [hn], fun φ w u tx HH hv ht => ?_⟩
      obtain ⟨bs, rfl, hbs, _⟩ := hv
      have hsz : bs.size = n := by rw [← hn, ← hbs]; simp
      refine ⟨byteCells bs, VRs.mk (by simp [byteCells, ← hbs]) fun i v u h1 h2 => ?_, ?_⟩
      · rw [← hbs] at h1
        unfold byteCells at h2
        simp only [List.map_map, List.getElem?_map, Option.map_eq_some_iff] at h1 h2
        obtain ⟨a, ha, rfl⟩ := h1
        obtain ⟨b, hb, rfl⟩ := h2
        rw [ha] at hb; injection hb with hb; subst hb
        rfl
      · subst hsz
        exact ⟨isSeq_kind ht, fun _ => rfl, firstCells_string bs w, firstCells_string bs w.drew, by rw [byteCells_length, Nat.mul_one], fun u hu => by
          obtain ⟨_, _, rfl⟩ := List.mem_map.1 hu
          rfl⟩
  | sl b o n cp =>
    obtain ⟨l, h1, h2, H⟩ := sl b o n h
    refine ⟨n, l, h1, h2, fun φ w u tx HH hv ht => ?_⟩
    obtain ⟨x, hx, rfl⟩ := hv
    exact H φ w x cp tx HH hx ht
  | so b o n =>
    obtain ⟨l, h1, h2, H⟩ := sl b o n h
    refine ⟨n, l, h1, h2, fun φ w u tx HH hv ht => ?_⟩
    obtain ⟨x, cp, hx, _, _, rfl⟩ := hv
    exact H φ w x cp tx HH hx ht
  | sn =>
    refine ⟨0, [], h, by simp, fun φ w u tx HH hv ht => ?_⟩
    rw [show u = _ from hv]
    exact ⟨[], rfl, isSeq_kind ht, fun _ => rfl, run_firstCells_none w es 0 0 0, run_firstCells_none w.drew es 0 0 0, by simp, fun _ h => by cases h⟩
  | _ => cases h
end
end Go.Ev
namespace Go.Ev
section
variable {R : Type} {P : Program}
/-- the element type of a slice that is appended to -/
structure EI (P : Program) (t e es : Nat) (i : TypeInfo) (z : Value) : Prop where
  ht : P.underlying t = some (.slice e)
  hi : P.info? e = some i
  hz : i.zero = some z
  sz : i.size = es
  cz : P.cellsOf e = es
  zs : z.cells.size = es
  pos : 0 < es
  by_ : i.bytes ≤ 1048576
theorem EI.mk' {t e es : Nat} (h : elemT P t = some (e, es)) (h0 : zeroFits P e = true) : ∃ i z, EI P t e es i z := by
  obtain ⟨h1, h2, h3, h4⟩ := elemT_some h
  unfold zeroFits at h0
  cases hz : zeroL P e with
  | none => rw [hz] at h0; cases h0
  | some zl =>
    rw [hz] at h0
    simp only [Bool.and_eq_true, beq_iff_eq, decide_eq_true_eq] at h0
    obtain ⟨i, z, hi, hzz, hv⟩ := zeroL_info hz
    obtain ⟨i', hi', hby⟩ := bytes_info h4
    rw [hi] at hi'; injection hi' with hi'; subst hi'
    have hzs : z.cells.size = zl.length := by have := (hv fun _ => none).1.len; simpa using this
    exact ⟨i, z, h1, hi, hzz, by rw [h2, cellsOf_some hi], h2.symm, by omega, by omega, by omega⟩
theorem grow_run {t e es : Nat} {i : TypeInfo} {z : Value} (E : EI P t e es i z) {w : World} {tx ty : Nat} {base : Option Addr} {sLen sCap n : Nat} {olds news : List Value} {x : Value}
    (hold : (Builtin.firstCells es sLen (.slice base sLen sCap)).run P w.drew = .ok olds.toArray w.drew) (hs : Src P es tx x n news w) (hg : sCap < sLen + n) (hn : sLen + n ≤ 1048576) :
    ∃ cp rest, sLen + n ≤ cp ∧ ((sLen + n) * es + rest.length = cp * es ∧ cp ≤ maxLen) ∧
      (Builtin.append_ #[t, tx] ty #[.slice base sLen sCap, x]).run P w = .ok (.slice (some ⟨w.heap.size, 0, none⟩) (sLen + n) cp) { w.drew with heap := w.heap.push (.cells ((olds ++ news) ++ rest).toArray e) } := by
  obtain ⟨ht, hi, hz, sz, cz, zs, pos, by_⟩ := E
  subst sz
  have hfit : Builtin.nextslicecap (sLen + n) sCap * i.bytes ≤ 281474976710656 := growslice_fits hg (by
    have := Nat.mul_le_mul hn by_
    omega)
  have hrun := run_append_grow_src (P := P) w t tx ty e i z ht hi hz base sLen sCap olds hold x n news hs hg (by omega) hfit
  refine ⟨grownCap w (sLen + n) sCap e, (Builtin.zeroCells z.cells (grownCap w (sLen + n) sCap e - (sLen + n))).toList, grownCap_ge .., ⟨?_, grownCap_le_maxLen w _ _ _ (by unfold maxLen; omega)⟩, ?_⟩
  · have := grownCap_ge w (sLen + n) sCap e
    unfold Builtin.zeroCells
    simp only [Array.length_toList, Array.size_map, Array.size_range, zs]
    rw [← Nat.add_mul]
    congr 1
    omega
  · rw [hrun]
    have : ((olds ++ news).toArray ++ Builtin.zeroCells z.cells (grownCap w (sLen + n) sCap e - (sLen + n))) = ((olds ++ news) ++ (Builtin.zeroCells z.cells (grownCap w (sLen + n) sCap e - (sLen + n))).toList).toArray := by
      apply Array.ext'
      simp
    rw [this]
    rfl
/-- s behind a block that goes on under a new number -/
noncomputable def movS (s : S) (b : Nat) (bl : Blk) : S := newS (wrS s b .gone) bl
theorem movS_abs {s : S} {b : Nat} {bl : Blk} (hb : s.base ≤ s.n) (h1 : b < 262144) (hl : look s.h b ≠ .gone) (hn : s.n < 262144) : Abs s (movS s b bl) :=
  Abs.trans hb (wrS_abs h1 hl) (newS_abs hb hn)
theorem appendC_some {e es : Nat} {s : S} {x : V} {c : Nat} {new : List V} {k : V → S → Option R} {r : R} (hb : s.base ≤ s.n) (hlen : new.length = c * es) (h : appendC s e es x c new k = some r) :
    ∃ v s', Abs s s' ∧ k v s' = some r ∧ ∀ t i z, EI P t e es i z → ∀ tx ty φ w ux uy news, (∀ b, s.n ≤ b → φ b = none) → HR P φ s.h w → VR φ x ux → VRs φ new news → Src P es tx uy c news w →
      ∃ v' w' φ', (Builtin.append_ #[t, tx] ty #[ux, uy]).run P w = .ok v' w' ∧ VR φ' v v' ∧ Step P φ φ' s s' w w' := by
  have nothing : ∀ (v : V), x = v → c = 0 → (∀ φ u, VR φ v u → ∃ b n cp, u = .slice b n cp ∧ n ≤ cp) → k v s = some r → ∃ v s', Abs s s' ∧ k v s' = some r ∧ ∀ t i z, EI P t e es i z → ∀ tx ty φ w ux uy news, (∀ b, s.n ≤ b → φ b = none) → HR P φ s.h w → VR φ x ux → VRs φ new news → Src P es tx uy c news w →
      ∃ v' w' φ', (Builtin.append_ #[t, tx] ty #[ux, uy]).run P w = .ok v' w' ∧ VR φ' v v' ∧ Step P φ φ' s s' w w' := fun v hv hc hu hk => by
    refine ⟨v, s, Abs.refl s, hk, fun t i z E tx ty φ w ux uy news hf HH hx hn hs => ?_⟩
    subst hc
    have : news = [] := List.eq_nil_of_length_eq_zero (by rw [hn.len, hlen]; simp)
    subst this
    rw [hv] at hx
    obtain ⟨b, n, cp, rfl, hle⟩ := hu φ ux hx
    refine ⟨_, w, φ, run_append_nothing w t tx ty e i E.ht E.hi b n cp hle uy (by rw [E.sz]; exact hs), hx, Step.refl HH⟩
  unfold appendC at h
  rcases onL_some h with ⟨b, o, n, cp, hx, g⟩ | ⟨b, o, n, hx, g⟩ | ⟨hx, g⟩
  · obtain ⟨g1, g⟩ := iff_some g
    have g1 := ble_of g1
    rcases iff2 g with ⟨c0, g2⟩ | ⟨c0, g2⟩
    · exact nothing _ hx (beq_of c0) (fun φ u ⟨y, _, hu⟩ => ⟨_, _, _, hu, g1⟩) g2
    · rw [natF_eq] at g2
      rcases iff2 g2 with ⟨c1, g3⟩ | ⟨c1, g3⟩
      · have c1 : n + c ≤ cp := ble_of c1
        rw [natF_eq] at g3
        obtain ⟨bl, ha, g4, H⟩ := storeC_some (P := P) g3
        refine ⟨_, _, ha, g4, fun t i z E tx ty φ w ux uy news hf HH hxv hn hs => ?_⟩
        rw [hx] at hxv
        obtain ⟨y, hy, rfl⟩ := hxv
        obtain ⟨q1, q2⟩ := H φ w y news HH hy hn hs.one
        have E' := E
        obtain ⟨ht, hi, hz, sz, cz, zs, pos, by_⟩ := E
        subst sz
        refine ⟨_, _, φ, run_append_room_src w t tx ty e i ht hi y.1 o n cp uy c news hs c1 (fun j hj => (q1 j hj).1) (fun j hj => (q1 j hj).2), ⟨y, hy, rfl⟩, q2⟩
      · obtain ⟨c2, g4⟩ := iff_some g3
        have c2 : n + c ≤ 1048576 := ble_of c2
        have c1' : cp < n + c := by
          rcases Nat.lt_or_ge cp (n + c) with h' | h'
          · exact h'
          · have c1 : Nat.ble (n + c) cp = false := c1
            rw [Nat.ble_eq_true_of_le h'] at c1; cases c1
        obtain ⟨old, g5, ho, H1⟩ := cellsC_some (P := P) g4
        rw [natF_eq] at g5
        obtain ⟨bl, ha, g6, H2⟩ := row_some' (P := P) hb (by rw [List.length_append, ho, hlen]; exact Nat.add_mul ..) g5
        refine ⟨_, _, ha, g6, fun t i z E tx ty φ w ux uy news hf HH hxv hn hs => ?_⟩
        rw [hx] at hxv
        obtain ⟨y, hy, rfl⟩ := hxv
        obtain ⟨olds, o1, o2, o3⟩ := H1 φ w y HH hy
        obtain ⟨cp', rest, r1, r2, r3⟩ := grow_run (ty := ty) (sCap := cp) E (run_firstCells_some w.drew es n ⟨y.1, o, none⟩ n cp olds (by rw [o1.len, ho]) (fun j u hu => by rw [addr_add]; exact o3 j u hu)) hs c1' c2
        have hst := H2 φ w.drew (olds ++ news) rest (hf _ (Nat.le_refl _)) (HH.drew rfl) (o1.append hn) (fun u hu => (List.mem_append.1 hu).elim (o2 u) (hs.one u))
        refine ⟨_, _, _, r3, ⟨_, cp', addPhi_at _ _ _, r1, ⟨?_, r2.2⟩, rfl⟩, hst.drew⟩
        simp only [List.length_append, o1.len, hn.len, ho, hlen, E.cz]
        rw [← r2.1, Nat.add_mul]; omega
  · rcases iff2 g with ⟨c0, g2⟩ | ⟨c0, g2⟩
    · exact nothing _ hx (beq_of c0) (fun φ u ⟨y, cp, _, hle, _, hu⟩ => ⟨_, _, _, hu, hle⟩) g2
    · obtain ⟨c1, g3⟩ := iff_some g2
      have c1 := beq_of c1
      obtain ⟨hbl, g4⟩ := getH_some g3
      obtain ⟨ty', m, fz, pg, hl, g5⟩ := onC_some g4
      obtain ⟨c2, g6⟩ := iff_some g5
      have c2 := beq_of c2
      rw [natF_eq] at g6
      obtain ⟨c3, g7⟩ := iff_some g6
      have c3 : n * es ≤ m := ble_of c3
      obtain ⟨c4, g8⟩ := iff_some g7
      have c4 : fz ≤ n * es := ble_of c4
      rw [setsP_eq, natF_eq] at g8
      obtain ⟨c5, g9⟩ := iff_some g8
      have c5 : n + c ≤ 1048576 := ble_of c5
      rw [natF_eq] at g9
      obtain ⟨_, g10⟩ := setH_some g9
      obtain ⟨hsn, g11⟩ := fresh_some g10
      have hsn : s.n < 262144 := hsn
      have hlive : look s.h b ≠ .gone := by rw [hl]; simp
      refine ⟨_, movS s b (.cel ty' ((n + c) * es) fz (updsP pg (n * es) new)), movS_abs hb hbl hlive hsn, g11, fun t i z E tx ty φ w ux uy news hf HH hxv hn hs => ?_⟩
      have hφ : φ s.n = none := hf _ (Nat.le_refl _)
      rw [hx] at hxv
      obtain ⟨y, cp, hy, hle, hfits, rfl⟩ := hxv
      subst c1; subst c2
      have hB := HH.at_ b y hy
      rw [hl] at hB
      obtain ⟨arr, lo, hi, hoA, hsz, hes, hN, hfz, hc⟩ := hB
      have hes' : y.2.1 = es := by rw [← hes, E.cz]
      have hnl : news.length = c * es := by rw [hn.len, hlen]
      rw [hes'] at hfits
      by_cases hroom : n + c ≤ cp
      · have hcap : (n + c) * es ≤ y.2.2 := by
          have := Nat.mul_le_mul_right es hroom
          have := hfits.1
          omega
        have hadd : (n + c) * es = n * es + c * es := Nat.add_mul ..
        have q1 : ∀ j, j < news.length → (w.cell? ⟨y.1, 0 + n * es + j, none⟩).isSome = true := fun j hj => by
          rw [cell_row hoA, Array.getElem?_eq_getElem (by omega)]; rfl
        have q2 : ∀ j, j < news.length → w.frozen? ⟨y.1, 0 + n * es + j, none⟩ = false := fun j hj => frozen_row hoA hfz (by omega)
        obtain ⟨ht, hi', hz, sz, cz, zs, pos, by_⟩ := E
        subst sz
        obtain ⟨a1, a2, a3, a4, a5, a6⟩ := heap_setCells news w y.1 (0 + n * i.size) arr ty' (lo, hi) hoA
        refine ⟨_, _, addPhi φ s.n y, run_append_room_src w t tx ty ty' i ht hi' y.1 0 n cp uy c news hs hroom q1 q2, ⟨y, cp, addPhi_at _ _ _, hroom, ?_, rfl⟩, ?_⟩
        · rw [hes']; exact hfits
        · refine moveS_step hy hlive hsn hφ HH a3 a4 a5 a6 a2 ?_
          rw [a1]
          refine ⟨setL arr (0 + n * i.size) news, lo, hi, rfl, by rw [setL_size]; exact hsz, hes, hcap, hfz, fun j hj => ?_⟩
          rw [setL_at news arr _ j (by omega), cell_upds]
          by_cases hr : n * i.size ≤ j ∧ j < n * i.size + new.length
          · rw [if_pos (by omega), if_pos hr]
            obtain ⟨v, hv1⟩ : ∃ v, new[j - n * i.size]? = some v := ⟨_, List.getElem?_eq_getElem (by omega)⟩
            obtain ⟨u, hu1, hu2⟩ := hn.at_ hv1
            exact ⟨u, by rw [Nat.zero_add]; exact hu1, by rw [hv1]; exact hu2, hs.one u (List.mem_of_getElem? hu1)⟩
          · rw [if_neg (by omega), if_neg hr]
            exact hc j (by omega)
      · let olds : List Value := (List.range (n * es)).map fun i => (arr[i]?).getD undef
        have hol : olds.length = n * es := by simp [olds]
        have hat : ∀ i, i < n * es → ∃ u, olds[i]? = some u ∧ arr[i]? = some u ∧ VR φ (cell pg i) u ∧ u.oneCell' = true := fun i hi => by
          obtain ⟨u', h1, h2, h3⟩ := hc i (by omega)
          exact ⟨u', by simp [olds, hi, h1], h1, h2, h3⟩
        have hcell : ∀ j u, olds[j]? = some u → w.drew.cell? ((⟨y.1, 0, none⟩ : Addr).add j) = some u := fun j u hu => by
          have hj : j < n * es := by have := (List.getElem?_eq_some_iff.1 hu).1; omega
          obtain ⟨u', h1, h2, _⟩ := hat j hj
          rw [hu] at h1; injection h1 with h1; subst h1
          rw [addr_add, World.cell?_drew, cell_row hoA, Nat.zero_add]; exact h2
        obtain ⟨cp', rest, r1, r2, r3⟩ := grow_run (ty := ty) (sCap := cp) E (run_firstCells_some w.drew es n ⟨y.1, 0, none⟩ n cp olds hol hcell) hs (by omega) c5
        have st1 : Step P φ φ s (wrS s b .gone) w.drew w.drew := wrS_step (w := w.drew) (w' := w.drew) hy hlive (HH.drew rfl) rfl rfl rfl rfl (fun _ _ => rfl) trivial
        have hadd : (n + c) * es = n * es + c * es := Nat.add_mul ..
        have hB2 : BR P φ es ((olds ++ news) ++ rest).length (.cel ty' ((n + c) * es) fz (updsP pg (n * es) new)) (some (.cells ((olds ++ news) ++ rest).toArray ty')) := by
          refine ⟨_, 0, 0, rfl, by simp, E.cz, by simp only [List.length_append]; omega, .inl ⟨rfl, rfl⟩, fun j hj => ?_⟩
          rw [cell_upds]
          simp only [List.getElem?_toArray]
          rw [List.getElem?_append_left (by simp only [List.length_append]; omega)]
          by_cases hr : n * es ≤ j
          · rw [if_pos (by omega), List.getElem?_append_right (by omega), hol]
            obtain ⟨v, hv1⟩ : ∃ v, new[j - n * es]? = some v := ⟨_, List.getElem?_eq_getElem (by omega)⟩
            obtain ⟨u, hu1, hu2⟩ := hn.at_ hv1
            exact ⟨u, hu1, by rw [hv1]; exact hu2, hs.one u (List.mem_of_getElem? hu1)⟩
          · rw [if_neg (by omega), List.getElem?_append_left (by omega)]
            obtain ⟨u, h1, _, h2, h3⟩ := hat j (by omega)
            exact ⟨u, h1, h2, h3⟩
        have st2 := newS_step (P := P) (s := wrS s b .gone) (w := w.drew) hsn hφ st1.hr hB2
        refine ⟨_, _, _, r3, ⟨_, cp', addPhi_at _ _ _, r1, ⟨?_, r2.2⟩, rfl⟩, (Step.trans (wrS_abs hbl hlive) (newS_abs (s := wrS s b .gone) hb hsn) st1 st2).drew⟩
        simp only [List.length_append, hol, hnl]
        have := r2.1
        omega
  · rcases iff2 g with ⟨c0, g2⟩ | ⟨c0, g2⟩
    · exact nothing _ hx (beq_of c0) (fun φ u hu => ⟨_, _, _, hu, Nat.le_refl _⟩) g2
    · obtain ⟨c2, g4⟩ := iff_some g2
      have c2 : c ≤ 1048576 := ble_of c2
      have c0' : c ≠ 0 := ne_of_nbeq c0
      rw [natF_eq] at g4
      obtain ⟨bl, ha, g6, H2⟩ := row_some' (P := P) hb (by rw [hlen]; rfl) g4
      refine ⟨_, _, ha, g6, fun t i z E tx ty φ w ux uy news hf HH hxv hn hs => ?_⟩
      rw [hx] at hxv
      rw [show ux = _ from hxv]
      obtain ⟨cp', rest, r1, r2, r3⟩ := grow_run (ty := ty) (sLen := 0) (sCap := 0) (olds := []) (base := none) E (run_firstCells_none w.drew es 0 0 0) hs (by omega) (by omega)
      have hst := H2 φ w.drew news rest (hf _ (Nat.le_refl _)) (HH.drew rfl) hn (fun u hu => hs.one u hu)
      simp only [Nat.zero_add, List.nil_append] at r1 r2 r3
      refine ⟨_, _, _, r3, ⟨_, cp', addPhi_at _ _ _, r1, ⟨?_, r2.2⟩, rfl⟩, hst.drew⟩
      simp only [hn.len, hlen, E.cz]
      have := r2.1
      omega
end
end Go.Ev
namespace Go.Ev
section
variable {R : Type} {P : Program}
/-- a builtin is sound -/
def BuSd (P : Program) (b : Builtin) (ts : Array Nat) (args : List V) (s : S) (v : V) (s' : S) : Prop :=
  ∀ (ty : Nat) (cs : Array Bool) (φ : Phi) (us : List Value) (w : World), (∀ b, s.n ≤ b → φ b = none) → VRs φ args us → HR P φ s.h w →
    ∃ u w' φ', (builtin b ts ty cs us.toArray).run P w = .ok (.value u) w' ∧ VR φ' v u ∧ Step P φ φ' s s' w w'
def BuSpec (P : Program) (b : Builtin) (ts : List Nat) (B : BuC R) : Prop := ∀ args s k r, s.base ≤ s.n → B.run args s k = some r → ∃ v s', BuSd P b ts.toArray args s v s' ∧ Abs s s' ∧ k v s' = some r
theorem BuSpec.no {b : Builtin} {ts : List Nat} : BuSpec P b ts (noBu : BuC R) := by
  intro args s k r _ h
  cases h
/-- a builtin that leaves the world -/
theorem BuSd.val {b : Builtin} {ts : Array Nat} {args : List V} {s : S} {v : V}
    (h : ∀ ty cs φ (us : List Value) w, VRs φ args us → HR P φ s.h w → ∃ u, (builtin b ts ty cs us.toArray).run P w = .ok (.value u) w ∧ VR φ v u) : BuSd P b ts args s v s :=
  fun ty cs φ us w _ hv HH => let ⟨u, h1, h2⟩ := h ty cs φ us w hv HH; ⟨u, w, φ, h1, h2, Step.refl HH⟩
theorem hd_VR {φ : Phi} {args : List V} {us : List Value} {i : Nat} {v : V} (h : VRs φ args us) (hv : hd args i = v) (hne : v ≠ .vt []) : ∃ u, us[i]? = some u ∧ VR φ v u := by
  unfold hd at hv
  rw [nth_eq] at hv
  cases ha : args[i]? with
  | none => rw [ha] at hv; exact absurd hv.symm hne
  | some x =>
    rw [ha] at hv
    have hv : x = v := hv
    subst hv
    exact h.at_ ha
theorem goInt_nat (n : Nat) : (goInt n : Value) = .int .i64 (Int.ofNat n) := rfl
theorem bu_len (ts : List Nat) : BuSpec P .len ts (builtinC P .len ts : BuC R) := by
  cases ts with
  | nil => exact BuSpec.no
  | cons t ts =>
    simp only [builtinC]
    split
    · rename_i hu
      intro args s k r hb h
      obtain ⟨n, l, hx, h⟩ := onS_some h
      refine ⟨_, _, BuSd.val fun ty cs φ us w hv HH => ?_, Abs.refl s, h⟩
      obtain ⟨u, h1, h2⟩ := hd_VR hv hx (by simp)
      obtain ⟨bs, rfl, hbs, hl⟩ := h2
      have hsz : bs.size = n := by rw [← hl, ← hbs]; simp
      refine ⟨_, ?_, rfl⟩
      simp [builtin, Builtin.len_, h1, run_underlying hu, hsz]
      rfl
    · rename_i el hu
      intro args s k r hb h
      rcases onL_some h with ⟨b, o, n, c, hx, g⟩ | ⟨b, o, n, hx, g⟩ | ⟨hx, g⟩
      · refine ⟨_, _, BuSd.val fun ty cs φ us w hv HH => ?_, Abs.refl s, g⟩
        obtain ⟨u, h1, y, hy, rfl⟩ := hd_VR hv hx (by simp)
        refine ⟨_, ?_, rfl⟩
        simp [builtin, Builtin.len_, h1, run_underlying hu]
        rfl
      · refine ⟨_, _, BuSd.val fun ty cs φ us w hv HH => ?_, Abs.refl s, g⟩
        obtain ⟨u, h1, y, cp, hy, _, _, rfl⟩ := hd_VR hv hx (by simp)
        refine ⟨_, ?_, rfl⟩
        simp [builtin, Builtin.len_, h1, run_underlying hu]
        rfl
      · refine ⟨_, _, BuSd.val fun ty cs φ us w hv HH => ?_, Abs.refl s, g⟩
        obtain ⟨u, h1, h2⟩ := hd_VR hv hx (by simp)
        rw [show u = _ from h2] at h1
        refine ⟨_, ?_, rfl⟩
        simp [builtin, Builtin.len_, h1, run_underlying hu]
        rfl
    · rename_i kt el hu
      intro args s k r hb h
      simp only [] at h
      split at h
      · rename_i b hx
        obtain ⟨_, h⟩ := getH_some h
        obtain ⟨es, c, hl, h⟩ := onM_some h
        rw [natF_eq, lenN_eq] at h
        refine ⟨_, _, BuSd.val fun ty cs φ us w hv HH => ?_, Abs.refl s, h⟩
        obtain ⟨u, h1, y, hy, rfl⟩ := hd_VR hv hx (by simp)
        have hB := HH.at_ b y hy
        rw [hl] at hB
        obtain ⟨es', ho, hlen, _⟩ := hB
        refine ⟨_, ?_, rfl⟩
        simp [builtin, Builtin.len_, h1, run_underlying hu, getObj_map ho, hlen]
        rfl
      · rename_i hx
        refine ⟨_, _, BuSd.val fun ty cs φ us w hv HH => ?_, Abs.refl s, h⟩
        obtain ⟨u, h1, h2⟩ := hd_VR hv hx (by simp)
        rw [show u = _ from h2] at h1
        refine ⟨_, ?_, rfl⟩
        simp [builtin, Builtin.len_, h1, run_underlying hu]
        rfl
      · cases h
    · exact BuSpec.no
theorem bu_append (ts : List Nat) : BuSpec P .append ts (builtinC P .append ts : BuC R) := by
  match ts with
  | [] => exact BuSpec.no
  | [_] => exact BuSpec.no
  | t :: tx :: ts =>
    simp only [builtinC]
    split
    · rename_i e es hE hseq
      cases hz : zeroFits P e with
      | false => exact BuSpec.no
      | true =>
        simp only [natC_eq]
        intro args s k r hb h
        have h : srcC s es (hd args 1) (fun c l => appendC s e es (hd args 0) c l k) = some r := h
        have n1 : hd args 1 ≠ .vt [] := fun e => by rw [e] at h; cases h
        obtain ⟨c, l, g, hl, H1⟩ := srcC_some (P := P) h
        have n0 : hd args 0 ≠ .vt [] := fun e => by rw [e] at g; cases g
        obtain ⟨v, s', ha, g, H2⟩ := appendC_some (P := P) hb hl g
        obtain ⟨i, z, E⟩ := EI.mk' hE hz
        refine ⟨v, s', fun ty cs φ us w hf hv HH => ?_, ha, g⟩
        obtain ⟨ux, x1, x2⟩ := hd_VR hv rfl n0
        obtain ⟨uy, y1, y2⟩ := hd_VR hv rfl n1
        obtain ⟨news, m1, m2⟩ := H1 φ w uy tx HH y2 hseq
        obtain ⟨v', w', φ', r1, r2, r3⟩ := H2 t i z E tx ty φ w ux uy news hf HH x2 m1 m2
        refine ⟨v', w', φ', ?_, r2, r3⟩
        have : Builtin.append_ (t :: tx :: ts).toArray ty us.toArray = Builtin.append_ #[t, tx] ty #[ux, uy] := by
          unfold Builtin.append_
          simp [x1, y1]
        simp only [builtin, this, Sem.run_bind, r1, Result.andThen_ok, Sem.run_pure]
    · exact BuSpec.no
theorem bu_max (ts : List Nat) : BuSpec P .max ts (builtinC P .max ts : BuC R) := by
  intro args s k r hb h
  simp only [builtinC] at h
  rcases onIG_some h with ⟨ka, a, ha, h⟩ | ⟨ka, a, ha, h⟩
  rotate_left
  · obtain ⟨kb, b, hb', h⟩ := onI_some h
    obtain ⟨g1, hh⟩ := iff_some h
    obtain ⟨g2, hk⟩ := iff_some hh
    rw [lenN_eq] at g1
    have g1 := beq_of g1
    have g2 := beq_of g2
    subst g2
    refine ⟨_, _, BuSd.val fun ty cs φ us w hv HH => ?_, Abs.refl s, hk⟩
    have hl := hv.len
    obtain ⟨ux, x1, x2⟩ := hd_VR hv ha (by simp)
    obtain ⟨uy, y1, y2⟩ := hd_VR hv hb' (by simp)
    match us, hl with
    | [p, q], _ =>
      simp at x1 y1
      subst x1; subst y1
      rw [show p = _ from x2, show q = _ from y2]
      refine ⟨_, ?_, rfl⟩
      have hlt : Int.ofNat b > Int.negSucc a := Int.lt_of_lt_of_le (Int.negSucc_lt_zero a) (Int.natCast_nonneg b)
      simp only [builtin, Sem.run_bind, run_max_int2, Result.andThen_ok, Sem.run_pure, if_pos hlt]
    | [], hl => simp [g1] at hl
    | [_], hl => simp [g1] at hl
    | _ :: _ :: _ :: _, hl => simp [g1] at hl
  obtain ⟨kb, b, hb', h⟩ := onI_some h
  obtain ⟨g1, hh⟩ := iff_some h
  obtain ⟨g2, hk⟩ := iff_some hh
  rw [lenN_eq] at g1
  have g1 := beq_of g1
  have g2 := beq_of g2
  subst g2
  have key : ∀ (n : Nat), (if Int.ofNat b > Int.ofNat a then Int.ofNat b else Int.ofNat a) = Int.ofNat n → BuSd P .max ts.toArray args s (.vi ka n) s := fun n hn => BuSd.val fun ty cs φ us w hv HH => by
    have hl := hv.len
    obtain ⟨ux, x1, x2⟩ := hd_VR hv ha (by simp)
    obtain ⟨uy, y1, y2⟩ := hd_VR hv hb' (by simp)
    match us, hl with
    | [p, q], _ =>
      simp at x1 y1
      subst x1; subst y1
      rw [show p = _ from x2, show q = _ from y2]
      refine ⟨_, ?_, rfl⟩
      simp only [builtin, Sem.run_bind, run_max_int2, Result.andThen_ok, Sem.run_pure, hn]
    | [], hl => simp [g1] at hl
    | [_], hl => simp [g1] at hl
    | _ :: _ :: _ :: _, hl => simp [g1] at hl
  rcases iff2 hk with ⟨c, g⟩ | ⟨c, g⟩
  · have c := blt_of c
    exact ⟨_, _, key b (by rw [if_pos (by simp; omega)]), Abs.refl s, g⟩
  · have c : ¬ a < b := fun h' => by rw [show Nat.blt a b = true from Nat.ble_eq_true_of_le h'] at c; cases c
    exact ⟨_, _, key a (by rw [if_neg (by simp; omega)]), Abs.refl s, g⟩
theorem bu_min (ts : List Nat) : BuSpec P .min ts (builtinC P .min ts : BuC R) := by
  intro args s k r hb h
  simp only [builtinC] at h
  obtain ⟨ka, a, ha, h⟩ := onI_some h
  obtain ⟨kb, b, hb', h⟩ := onI_some h
  obtain ⟨g1, hh⟩ := iff_some h
  obtain ⟨g2, hk⟩ := iff_some hh
  rw [lenN_eq] at g1
  have g1 := beq_of g1
  have g2 := beq_of g2
  subst g2
  have key : ∀ (n : Nat), (if Int.ofNat b < Int.ofNat a then Int.ofNat b else Int.ofNat a) = Int.ofNat n → BuSd P .min ts.toArray args s (.vi ka n) s := fun n hn => BuSd.val fun ty cs φ us w hv HH => by
    have hl := hv.len
    obtain ⟨ux, x1, x2⟩ := hd_VR hv ha (by simp)
    obtain ⟨uy, y1, y2⟩ := hd_VR hv hb' (by simp)
    match us, hl with
    | [p, q], _ =>
      simp at x1 y1
      subst x1; subst y1
      rw [show p = _ from x2, show q = _ from y2]
      refine ⟨_, ?_, rfl⟩
      simp only [builtin, Sem.run_bind, run_min_int2, Result.andThen_ok, Sem.run_pure, hn]
    | [], hl => simp [g1] at hl
    | [_], hl => simp [g1] at hl
    | _ :: _ :: _ :: _, hl => simp [g1] at hl
  rcases iff2 hk with ⟨c, g⟩ | ⟨c, g⟩
  · have c := blt_of c
    exact ⟨_, _, key b (by rw [if_pos (by simp; omega)]), Abs.refl s, g⟩
  · have c : ¬ b < a := fun h' => by rw [show Nat.blt b a = true from Nat.ble_eq_true_of_le h'] at c; cases c
    exact ⟨_, _, key a (by rw [if_neg (by simp; omega)]), Abs.refl s, g⟩
theorem bu_sliceData (ts : List Nat) : BuSpec P .unsafeSliceData ts (builtinC P .unsafeSliceData ts : BuC R) := by
  intro args s k r hb h
  simp only [builtinC] at h
  obtain ⟨g1, h⟩ := iff_some h
  rw [lenN_eq] at g1
  have g1 := beq_of g1
  have one : ∀ {us : List Value} {φ : Phi} {u : Value}, VRs φ args us → us[0]? = some u → us = [u] := fun {us φ u} hv hu => by
    have hl := hv.len
    match us, hl, hu with
    | [p], _, hu => simp at hu; rw [hu]
    | [], hl, _ => simp [g1] at hl
    | _ :: _ :: _, hl, _ => simp [g1] at hl
  rcases onL_some h with ⟨b, o, n, c, hx, g⟩ | ⟨b, o, n, hx, g⟩ | ⟨hx, g⟩
  · obtain ⟨c0, g⟩ : Nat.beq c 0 = false ∧ k (.vp b o) s = some r := by
      rcases iff2 g with ⟨c0, g⟩ | ⟨c0, g⟩
      · cases g
      · exact ⟨c0, g⟩
    refine ⟨_, _, BuSd.val fun ty cs φ us w hv HH => ?_, Abs.refl s, g⟩
    obtain ⟨u, h1, y, hy, rfl⟩ := hd_VR hv hx (by simp)
    rw [one hv h1]
    refine ⟨_, ?_, y, hy, rfl⟩
    simp only [builtin, Sem.run_bind, Lib.run_unsafeSliceData_row _ _ _ _ _ _ (ne_of_nbeq c0), Result.andThen_ok, Sem.run_pure]
  · obtain ⟨c0, g⟩ : Nat.beq n 0 = false ∧ k (.vp b o) s = some r := by
      rcases iff2 g with ⟨c0, g⟩ | ⟨c0, g⟩
      · cases g
      · exact ⟨c0, g⟩
    refine ⟨_, _, BuSd.val fun ty cs φ us w hv HH => ?_, Abs.refl s, g⟩
    obtain ⟨u, h1, y, cp, hy, hle, _, rfl⟩ := hd_VR hv hx (by simp)
    have := ne_of_nbeq c0
    rw [one hv h1]
    refine ⟨_, ?_, y, hy, rfl⟩
    simp only [builtin, Sem.run_bind, Lib.run_unsafeSliceData_row _ _ _ _ _ cp (by omega), Result.andThen_ok, Sem.run_pure]
  · refine ⟨_, _, BuSd.val fun ty cs φ us w hv HH => ?_, Abs.refl s, g⟩
    obtain ⟨u, h1, h2⟩ := hd_VR hv hx (by simp)
    rw [show u = _ from h2] at h1
    rw [one hv h1]
    refine ⟨_, ?_, rfl⟩
    simp only [builtin, Sem.run_bind, Lib.run_unsafeSliceData_nil, Result.andThen_ok, Sem.run_pure]
theorem bu_delete (ts : List Nat) : BuSpec P .delete ts (builtinC P .delete ts : BuC R) := by
  cases ts with
  | nil => exact BuSpec.no
  | cons t ts =>
    simp only [builtinC]
    split
    · rename_i K hk
      obtain ⟨kt, el, ht, hK⟩ := keyT_some hk
      intro args s k r hb h
      simp only [] at h
      split at h
      · rename_i b hx
        obtain ⟨hbl, h⟩ := getH_some h
        obtain ⟨es, c, hl, h⟩ := onM_some h
        obtain ⟨hko, h⟩ := onKey_some h
        have n1 : hd args 1 ≠ .vt [] := fun e => by rw [e] at hko; cases K <;> exact hko.elim
        rw [findC_eq] at h
        have hlive : look s.h b ≠ .gone := by rw [hl]; simp
        have pre : ∀ res, findB K (hd args 1) es 0 = some res → ∀ ty φ (us : List Value) w, VRs φ args us → HR P φ s.h w →
            ∃ z : Nat × Nat × Nat, ∃ es' : List MapEntry, ∃ res', φ b = some z ∧ w.heap[z.1]? = some (.map (List.toArray es') c) ∧ es'.length = es.length ∧ (∀ (i : Nat) (x : V × V × Nat) (y : MapEntry), es[i]? = some x → es'[i]? = some y → VR φ x.1 y.key ∧ VR φ x.2.1 y.val ∧ y.born = x.2.2) ∧
              FndR φ es' 0 res res' ∧ (Builtin.delete_ (t :: ts).toArray ty us.toArray).run P w = .ok (.tuple #[]) (putMap w z.1 (match res' with | some (i, _) => .map ((List.toArray es').eraseIdxIfInBounds i) c | none => .map (List.toArray es') c)) := fun res hres ty φ us w hv HH => by
          obtain ⟨u, h1, z, hz, rfl⟩ := hd_VR hv hx (by simp)
          obtain ⟨uk, k1, k2⟩ := hd_VR hv rfl n1
          have := HH.at_ b z hz
          rw [hl] at this
          obtain ⟨es', ho, hlen, hrel⟩ := this
          obtain ⟨res', g1, g2⟩ := findKey_run hK k2 es es' res w hlen hrel hres
          refine ⟨z, es', res', hz, ho, hlen, hrel, g2, ?_⟩
          have hck := checkKey_run (P := P) hK k2 hko (List.toArray es').isEmpty w
          unfold Builtin.delete_
          simp only [List.getElem?_toArray, h1, k1, List.getElem?_cons_zero, Sem.run_bind, run_underlying ht, Result.andThen_ok, getObj_map ho, hck]
          have g1' : (Instr.findKey kt uk (List.toArray es').toList).run P w = .ok res' w := g1
          simp only [g1', Result.andThen_ok]
          cases res' with
          | none => simp only [Sem.run_bind, run_setObj ho, Result.andThen_ok, Sem.run_pure]
          | some q => simp only [Sem.run_bind, run_setObj ho, Result.andThen_ok, Sem.run_pure]
        cases hf : findB K (hd args 1) es 0 with
        | none => rw [hf] at h; cases h
        | some res =>
          rw [hf] at h
          cases res with
          | none =>
            simp only [] at h
            obtain ⟨_, h⟩ := wrote_some h
            refine ⟨_, _, fun ty cs φ us w hfr hv HH => ?_, wrS_abs hbl hlive, h⟩
            obtain ⟨z, es', res', hz, ho, hlen, hrel, g2, hrun⟩ := pre none hf ty φ us w hv HH
            cases res' with
            | some _ => exact g2.elim
            | none =>
              refine ⟨_, _, φ, ?_, ⟨[], rfl, rfl⟩, putMap_step hz hlive HH ⟨es', rfl, hlen, hrel⟩⟩
              simp only [builtin, Sem.run_bind, hrun, Result.andThen_ok, Sem.run_pure]
          | some q =>
            obtain ⟨i, v, bn⟩ := q
            simp only [] at h
            obtain ⟨_, h⟩ := wrote_some h
            refine ⟨_, _, fun ty cs φ us w hfr hv HH => ?_, wrS_abs hbl hlive, h⟩
            obtain ⟨z, es', res', hz, ho, hlen, hrel, g2, hrun⟩ := pre (some (i, v, bn)) hf ty φ us w hv HH
            cases res' with
            | none => exact g2.elim
            | some q' =>
              obtain ⟨i', v'⟩ := q'
              obtain ⟨e1, _, _, y, hy, hyv, hyb⟩ := g2
              subst e1
              refine ⟨_, putMap w z.1 (.map ((List.toArray es').eraseIdxIfInBounds i) c), φ, ?_, ⟨[], rfl, rfl⟩, putMap_step hz hlive HH ⟨es'.eraseIdx i, ?_, ?_, fun j a y' ha hy' => ?_⟩⟩
              · simp only [builtin, Sem.run_bind, hrun, Result.andThen_ok, Sem.run_pure]
              · simp
              · simp [List.length_eraseIdx, hlen]
              · rw [List.getElem?_eraseIdx] at ha hy'
                by_cases hj : j < i
                · rw [if_pos hj] at ha hy'
                  exact hrel _ a y' ha hy'
                · rw [if_neg hj] at ha hy'
                  exact hrel _ a y' ha hy'
      · cases h
    · exact BuSpec.no
end
end Go.Ev
namespace Go.Ev
section
variable {R : Type} {P : Program}
theorem bu_clear (ts : List Nat) : BuSpec P .clear ts (builtinC P .clear ts : BuC R) := by
  cases ts with
  | nil => exact BuSpec.no
  | cons t ts =>
    simp only [builtinC]
    split
    · rename_i e hu
      split
      · rename_i z hzz
        have hzf : zeroFits P e = true ∧ zeroL P e = some z := by
          split at hzz
          · rename_i h; exact ⟨h, hzz⟩
          · cases hzz
        obtain ⟨hf0, hz⟩ := hzf
        obtain ⟨it, zu, hi, hzu, hzv⟩ := zeroL_info hz
        have hpos : 0 < zu.cells.size := by
          unfold zeroFits at hf0
          rw [hz] at hf0
          simp only [Bool.and_eq_true, beq_iff_eq, decide_eq_true_eq] at hf0
          have : zu.cells.size = z.length := by have := (hzv fun _ => none).1.len; simpa using this
          omega
        have hzr : ∀ w, (zeroValue e).run P w = .ok zu w := fun w => by simp [zeroValue, typeInfo, hi, hzu]
        have some_ : ∀ {args : List V} {s : S} {k : V → S → Option R} {r : R} {b o n : Nat}, (∀ {φ us}, VRs φ args us → ∃ y cp, φ b = some y ∧ us[0]? = some (.slice (some ⟨y.1, o, none⟩) n cp)) →
            iff (Nat.beq n 0) (k (.vt []) s) (storeC s b o (repL z n) fun s => k (.vt []) s) = some r → ∃ v s', BuSd P .clear (t :: ts).toArray args s v s' ∧ Abs s s' ∧ k v s' = some r := fun {args s k r b o n} harg h => by
          rcases iff2 h with ⟨c, g⟩ | ⟨c, g⟩
          · have c := beq_of c
            refine ⟨_, _, BuSd.val fun ty cs φ us w hv HH => ?_, Abs.refl s, g⟩
            obtain ⟨y, cp, _, hu0⟩ := harg hv
            subst c
            refine ⟨.tuple #[], ?_, [], rfl, rfl⟩
            simp [builtin, Builtin.clear_, hu0, run_underlying hu]
          · have c := ne_of_nbeq c
            obtain ⟨bl, ha, g, H⟩ := storeC_some (P := P) g
            refine ⟨_, _, fun ty cs φ us w hfr hv HH => ?_, ha, g⟩
            obtain ⟨y, cp, hy, hu0⟩ := harg hv
            obtain ⟨r1, r2⟩ := rep_VR (hzv φ).1 (hzv φ).2 n (n * zu.cells.size) rfl hpos
            obtain ⟨q1, q2⟩ := H φ w y _ HH hy r1 r2
            have hst := run_storeCells_cells (P := P) y.1 o _ 0 w (by simpa using fun j hj => (q1 j (by simpa using hj)).1) (by simpa using fun j hj => (q1 j (by simpa using hj)).2) r2
            simp only [Nat.add_zero] at hst
            refine ⟨.tuple #[], _, φ, ?_, ⟨[], rfl, rfl⟩, q2⟩
            obtain ⟨m, rfl⟩ : ∃ m, n = m + 1 := ⟨n - 1, by omega⟩
            have hst' : (storeCells ⟨y.1, o, none⟩ (Builtin.zeroCells zu.cells (m + 1)).toList).run P w = _ := hst
            simp [builtin, Builtin.clear_, hu0, run_underlying hu, hzr, hst']
        intro args s k r hb h
        rcases onL_some h with ⟨b, o, n, c, hx, g⟩ | ⟨b, o, n, hx, g⟩ | ⟨hx, g⟩
        · exact some_ (fun {φ us} hv => by
            obtain ⟨u, h1, y, hy, rfl⟩ := hd_VR hv hx (by simp)
            exact ⟨y, c, hy, h1⟩) g
        · exact some_ (fun {φ us} hv => by
            obtain ⟨u, h1, y, cp, hy, _, _, rfl⟩ := hd_VR hv hx (by simp)
            exact ⟨y, cp, hy, h1⟩) g
        · refine ⟨_, _, BuSd.val fun ty cs φ us w hv HH => ?_, Abs.refl s, g⟩
          obtain ⟨u, h1, h2⟩ := hd_VR hv hx (by simp)
          rw [show u = _ from h2] at h1
          refine ⟨.tuple #[], ?_, [], rfl, rfl⟩
          simp [builtin, Builtin.clear_, h1, run_underlying hu]
      · exact BuSpec.no
    · exact BuSpec.no
theorem u8L_some : ∀ {l : List V} {k : List Nat → Option R} {r : R}, u8L l k = some r → ∃ bs : List UInt8, k (bs.map UInt8.toNat) = some r ∧ l = bs.map fun b => .vi 4 b.toNat
  | [], k, r, h => ⟨[], h, rfl⟩
  | x :: l, k, r, h => by
    obtain ⟨kd, n, hx, g⟩ := onI_some (show onI x (fun kd n => iff (Nat.beq kd 4) (iff (Nat.ble n 255) (u8L l fun l => k (n :: l)) none) none) = some r from h)
    obtain ⟨h1, g1⟩ := iff_some g
    obtain ⟨h2, g2⟩ := iff_some g1
    have h1 := beq_of h1
    have h2 := ble_of h2
    obtain ⟨bs, g3, g4⟩ := u8L_some g2
    have hn : (UInt8.ofNat n).toNat = n := by simp; omega
    exact ⟨UInt8.ofNat n :: bs, by rw [List.map_cons, hn]; exact g3, by rw [List.map_cons, hn, hx, h1, g4]⟩
theorem bu_string (ts : List Nat) : BuSpec P .unsafeString ts (builtinC P .unsafeString ts : BuC R) := by
  match ts with
  | [] => exact BuSpec.no
  | [_] => exact BuSpec.no
  | _ :: _ :: _ :: _ => exact BuSpec.no
  | [t, it] =>
    simp only [builtinC]
    split
    · rename_i u hu
      split
      · rename_i hu8
        intro args s k r hb h
        obtain ⟨g0, h⟩ := iff_some h
        rw [lenN_eq] at g0
        have g0 := beq_of g0
        obtain ⟨kd, n, hx1, h⟩ := onI_some h
        obtain ⟨g1, h⟩ := iff_some h
        simp only [Bool.and_eq_true] at g1
        obtain ⟨g1, g2, g3⟩ := g1
        have g1 := beq_of g1
        have g2 := beq_of g2
        have g3 := ble_of g3
        obtain ⟨g4, h⟩ : Nat.beq n 0 = false ∧ _ = some r := by
          rcases iff2 h with ⟨c0, g⟩ | ⟨c0, g⟩
          · cases g
          · exact ⟨c0, g⟩
        have g4 := ne_of_nbeq g4
        obtain ⟨b, o, hx0, h⟩ := onP_some h
        obtain ⟨g5, h⟩ := iff_some h
        have g5 := beq_of g5
        obtain ⟨hbl, h⟩ := getH_some h
        obtain ⟨ty', m, fz, pg, hl, h⟩ := onC_some h
        obtain ⟨g6, h⟩ := iff_some h
        have g6 := beq_of g6
        obtain ⟨g7, h⟩ := iff_some h
        have g7 := ble_of g7
        rw [getsP_eq] at h
        obtain ⟨bs, h, hcs⟩ := u8L_some h
        rw [natF_eq] at h
        obtain ⟨_, h⟩ := wrote_some h
        have hlive : look s.h b ≠ .gone := by rw [hl]; simp
        have hbl' : bs.length = n := by have := congrArg List.length hcs; rw [cells_len, List.length_map] at this; exact this.symm
        refine ⟨_, _, fun ty cs φ us w hfr hv HH => ?_, wrS_abs hbl hlive, h⟩
        obtain ⟨u1, p1, p2⟩ := hd_VR hv hx1 (by simp)
        obtain ⟨u0, q1, y, hy, rfl⟩ := hd_VR hv hx0 (by simp)
        have hlen := hv.len
        have hB := HH.at_ b y hy
        rw [hl] at hB
        obtain ⟨arr, lo, hi, ho, hsz, hes, hN, hfz, hc⟩ := hB
        subst g1; subst g5; subst g6
        have hus : us = [.pointer (some ⟨y.1, 0, none⟩), .int .i64 (bs.length : Int)] := by
          match us, hlen, q1, p1 with
          | [a, b], _, q1, p1 =>
            simp at q1 p1
            subst q1; subst p1
            rw [show b = _ from p2, hbl']
            rfl
          | [], hlen, _, _ => simp [g0] at hlen
          | [_], hlen, _, _ => simp [g0] at hlen
          | _ :: _ :: _ :: _, hlen, _, _ => simp [g0] at hlen
        have hcell : ∀ j x, bs[j]? = some x → w.cell? ((⟨y.1, 0, none⟩ : Addr).add j) = some (.int .u8 x.toNat) := fun j x hj => by
          have hjn : j < n := by have := (List.getElem?_eq_some_iff.1 hj).1; omega
          obtain ⟨u', a1, a2, _⟩ := hc j (by omega)
          have hcj := cells_at pg n 0 j hjn
          rw [hcs, List.getElem?_map, hj] at hcj
          simp only [Option.map_some, Nat.zero_add, Option.some.injEq] at hcj
          rw [← hcj] at a2
          rw [addr_add, cell_row ho, Nat.zero_add, a1, show u' = _ from a2]
          rfl
        have hrun := Lib.run_unsafeString_row (P := P) w t it ty ty' hu g2 y.1 arr.size (by unfold World.shape?; rw [ho]) bs (fun e => g4 (by rw [← hbl', e]; rfl)) (by omega) (by omega) hcell
        refine ⟨.string ⟨bs.toArray⟩, w.freeze ⟨y.1, 0, none⟩ bs.length, φ, ?_, ⟨_, rfl, by simp, by simp [hbl']⟩, ?_⟩
        · rw [hus]
          simp only [builtin, Sem.run_bind, hrun, Result.andThen_ok, Sem.run_pure]
        · have hfr0 : w.freeze ⟨y.1, 0, none⟩ bs.length = { w with heap := w.heap.modify y.1 fun | .cells c elem (lo, hi) => .cells c elem (if lo == hi then (0, 0 + bs.length) else (min lo 0, max hi (0 + bs.length))) | o => o } := by
            unfold World.freeze
            rw [if_neg (by omega)]
            rfl
          rw [hfr0]
          refine wrS_step hy hlive HH (by simp) rfl rfl rfl (fun β hβ => ?_) ?_
          · simp only [Array.getElem?_modify]
            rw [if_neg (fun e => hβ e.symm)]
          · simp only [Array.getElem?_modify, if_true, ho, Option.map_some]
            by_cases hlh : lo = hi
            · refine ⟨arr, 0, 0 + bs.length, by simp [hlh], hsz, hes, hN, .inr ?_, hc⟩
              show 0 < max fz n ∧ _ ≤ max fz n
              have : bs.length ≠ 0 := fun e => g4 (by rw [← hbl', e])
              omega
            · refine ⟨arr, min lo 0, max hi (0 + bs.length), by simp [hlh], hsz, hes, hN, .inr ?_, hc⟩
              show 0 < max fz n ∧ _ ≤ max fz n
              have : bs.length ≠ 0 := fun e => g4 (by rw [← hbl', e])
              omega
      · exact BuSpec.no
    · exact BuSpec.no
end
end Go.Ev
namespace Go.Ev
section
variable {R : Type} {P : Program}
theorem bu_all (b : Builtin) (ts : List Nat) : BuSpec P b ts (builtinC P b ts : BuC R) := by
  cases b with
  | len => exact bu_len ts
  | append => exact bu_append ts
  | max => exact bu_max ts
  | min => exact bu_min ts
  | delete => exact bu_delete ts
  | clear => exact bu_clear ts
  | unsafeSliceData => exact bu_sliceData ts
  | unsafeString => exact bu_string ts
  | _ => cases ts <;> exact BuSpec.no
theorem opds_VR {φ : Phi} {e : E4} {a : Act} {l : List Operand} (h : ∀ x ∈ l, OR φ e a x) : VRs φ ((opds l).get e) (l.map a.eval) := by
  rw [opds_get]
  refine VRs.mk (by simp) fun i v u h1 h2 => ?_
  simp only [List.getElem?_map, Option.map_eq_some_iff] at h1 h2
  obtain ⟨x, hx, rfl⟩ := h1
  obtain ⟨y, hy, rfl⟩ := h2
  rw [hx] at hy; injection hy with hy; subst hy
  exact h x (List.mem_of_getElem? hx)
theorem sd_builtin (c : Call) (b : Builtin) (hc : c.callee = .builtin b) : BSpec P (.call c) (cOp0 P (.call c) : BOp R) := by
  intro rec hrec e s k r hb h
  simp only [cOp0, hc, wOs_run] at h
  cases hB : (builtinC P b c.argTypes.toList : BuC R) with
  | mk run =>
    rw [hB] at h
    have hsp := bu_all (R := R) (P := P) b c.argTypes.toList
    rw [hB] at hsp
    obtain ⟨v, s', h1, ha, hk⟩ := hsp _ s k r hb h
    refine ⟨v, s', OpSd.run fun o ho φ a w hf hg HO HH => ?_, ha, hk⟩
    have hv := opds_VR (φ := φ) (e := e) (a := a) (l := c.args.toList) fun x hx => HO x (by simp only [Op.operands, Call.operands]; exact Array.mem_append.2 (.inr (by simpa using hx)))
    obtain ⟨u, w', φ', g1, g2, g3⟩ := h1 o.type (c.args.map fun | .const _ => true | _ => false) φ _ w hf hv HH
    refine ⟨u, w', φ', ?_, g2, g3⟩
    have hargs : c.args.map a.eval = (c.args.toList.map a.eval).toArray := by apply Array.ext'; simp
    unfold execOp
    rw [ho]
    simp only [resolve, hc, Sem.run_bind, Sem.run_pure, Result.andThen_ok, invoke, hargs]
    exact g1
/-- a function's call -/
theorem sd_fn {c : Call} {f : Operand} (hc : c.callee = .value f) {e : E4} {s s' : S} {v : V} {g : Nat} {cs : List V} (h : CallSd P g ((opds c.args.toList).get e ++ cs) s v s')
    (hf : ∀ φ a, Glob φ → (∀ x, x ∈ (Op.call c).operands → OR φ e a x) → ∃ us, a.eval f = .func (.func g) #[] (List.toArray us) ∧ VRs φ cs us) : OpSd P (.call c) e s v s' := by
  intro o ho φ a w K Q hfr hg HO HH hK
  obtain ⟨us, hu, hus⟩ := hf φ a hg HO
  have hv := opds_VR (φ := φ) (e := e) (a := a) (l := c.args.toList) fun x hx => HO x (by simp only [Op.operands, Call.operands]; exact Array.mem_append.2 (.inr (by simpa using hx)))
  have := h φ (c.args.toList.map a.eval ++ us) w (fun u w' => K (a.put o.dst u) w') hfr hg (hv.append hus) HH (fun φ' u w' => hK φ' u w')
  unfold CallW at this
  have hargs : c.args.map a.eval ++ List.toArray us = (c.args.toList.map a.eval ++ us).toArray := by apply Array.ext'; simp
  unfold Oper.wp execOp
  rw [ho]
  simp only [resolve, hc, hu, Deferred.ofValue, Sem.run_bind, Sem.run_pure, Result.andThen_ok, invoke]
  rw [show #[] ++ c.args.map a.eval = c.args.map a.eval by simp, hargs]
  cases hr : (callFunc g (c.args.toList.map a.eval ++ us).toArray).run P w with
  | ok n w' =>
    rw [hr] at this
    cases n with
    | enter f' args' =>
      refine this.mono fun e w'' he => ?_
      cases e with
      | returned v => exact he
      | panicked _ => exact he.elim
      | outgrown => exact he.elim
    | value v => exact this
    | _ => exact this.elim
  | halt _ _ => rw [hr] at this; exact this.elim
theorem sd_call (c : Call) : BSpec P (.call c) (cOp0 P (.call c) : BOp R) := by
  cases hc : c.callee with
  | builtin b => exact sd_builtin c b hc
  | invoke _ _ => 
    intro rec hrec e s k r hb h
    simp only [cOp0, hc] at h
    cases h
  | value f =>
    intro rec hrec e s k r hb h
    have gen : ∀ (f : Operand), c.callee = .value f → (match (opd f).get e with | .vf g cs => rec g ((opds c.args.toList).get e ++ cs) s k | _ => none) = some r → ∃ v s', OpSd P (.call c) e s v s' ∧ Abs s s' ∧ k v s' = some r := fun f hc h => by
      split at h
      · rename_i g cs hg
        obtain ⟨v, s', h1, ha, hk⟩ := hrec g _ s k r hb h
        refine ⟨v, s', sd_fn hc h1 fun φ a _ HO => ?_, ha, hk⟩
        have := HO f (by simp only [Op.operands, Call.operands, hc]; exact Array.mem_append.2 (.inl (by simp)))
        unfold OR at this
        rw [hg] at this
        exact this
      · cases h
    cases f with
    | func g =>
      simp only [cOp0, hc, wOs_run] at h
      obtain ⟨v, s', h1, ha, hk⟩ := hrec g _ s k r hb h
      refine ⟨v, s', sd_fn (cs := []) hc (by rw [List.append_nil]; exact h1) fun φ a _ HO => ⟨[], rfl, rfl⟩, ha, hk⟩
    | tmp t =>
      simp only [cOp0, hc, wO_run, wOs_run] at h
      exact gen _ hc h
    | const t =>
      simp only [cOp0, hc, wO_run, wOs_run] at h
      exact gen _ hc h
    | global t =>
      simp only [cOp0, hc, wO_run, wOs_run] at h
      exact gen _ hc h
end
end Go.Ev
namespace Go.Ev
section
variable {R : Type} {P : Program}
theorem sd_all (op : Op) : BSpec P op (cOp0 P op : BOp R) := by
  have no : ∀ {op : Op}, (cOp0 P op : BOp R) = failOp → BSpec P op (cOp0 P op : BOp R) := fun h => by rw [h]; exact BSpec.fail
  cases op with
  | move x => exact sd_move x
  | assign x => exact sd_assign x
  | pick c x y => exact sd_pick c x y
  | alloc t => exact sd_alloc t
  | box t x => exact sd_box t x
  | build t parts => exact sd_build t parts
  | buildSlice t l parts => exact sd_buildSlice t l parts
  | load t x => exact sd_load t x
  | store t x y => exact sd_store t x y
  | nilCheck x => exact sd_nilCheck x
  | binOp op t x y z => exact sd_binOp op t z x y
  | unOp op t x =>
    cases op with
    | not => exact sd_not t x
    | _ => exact no rfl
  | convert a b x => exact sd_convert a b x
  | makeFunc fn first cs =>
    cases fn with
    | func g =>
      obtain ⟨first⟩ := first
      obtain ⟨cs⟩ := cs
      cases first with
      | nil => exact sd_makeFunc g cs
      | cons _ _ => exact no rfl
    | _ => exact no rfl
  | makeMap t r =>
    cases r with
    | none => exact sd_makeMap t
    | some _ => exact no rfl
  | makeSlice t l c => exact sd_makeSlice t l c
  | slice t x lo hi mx => exact sd_slice t x lo hi mx
  | fieldAddr st x j => exact sd_fieldAddr st x j
  | indexAddr t x ix => exact sd_indexAddr t x ix
  | index t x ix => exact sd_index t x ix
  | lookup t x key ok => exact sd_lookup t x key ok
  | mapUpdate t m key x => exact sd_mapUpdate t m key x
  | insert t m key x => exact sd_insert t m key x
  | extract t ix => exact sd_extract t ix
  | call c => exact sd_call c
  | _ => exact no rfl
end
end Go.Ev
