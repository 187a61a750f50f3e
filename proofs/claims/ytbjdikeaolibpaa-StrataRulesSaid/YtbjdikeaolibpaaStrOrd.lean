/-
  The contracts of strata.Order and of the reference's Order.
-/
import Derived.Test.YtbjdikeaolibpaaStrPlain
import Derived.Test.YtbjdikeaolibpaaStrOf
import Derived.Test.YtbjdikeaolibpaaStrLev
import Derived.Test.YtbjdikeaolibpaaStrRef
import Derived.Test.YtbjdikeaolibpaaLex
import Derived.Laws.OwnMore
namespace Go.Proofs.Ytbjdikeaolibpaa
open Go.RowKit

theorem Own.differ2 {w : World} {base base' k k' : Nat} {e e' : TypeId} {v v' : Value} {css css' : List (List Value)} (h : Own w base e k v css) (h' : Own w base' e' k' v' css') (hne : e ≠ e') {g : Nat} (hg : v.ownBlock = some g) : v'.ownBlock ≠ some g := by
  intro hg'
  rcases h.1.2 with ⟨rfl, _⟩ | ⟨g1, cap, cur, rfl, _, h2, _⟩
  · cases hg
  · rcases h'.1.2 with ⟨rfl, _⟩ | ⟨g2, cap2, cur2, rfl, _, h3, _⟩
    · cases hg'
    · simp [Value.ownBlock] at hg hg'
      subst hg hg'
      rw [h2] at h3
      injection h3 with h3
      injection h3 with _ h3
      exact hne h3

/-- a table of rows of numbers, each in a block of its own -/
structure RowsAt (w : World) (base : Nat) (ov : Value) (us : List Value) (rows : List (List Int)) : Prop where
  out : Own w base 73 1 ov (us.map fun u => [u])
  len : us.length = rows.length
  row : ∀ (i : Nat) (u : Value) (r : List Int), us[i]? = some u → rows[i]? = some r → Own w base 3 1 u (r.map encI)
  diff : ∀ (i j : Nat) (u v : Value), i ≠ j → us[i]? = some u → us[j]? = some v → ∀ g, u.ownBlock = some g → v.ownBlock ≠ some g
theorem RowsAt.sl {w : World} {base : Nat} {ov : Value} {us : List Value} {rows : List (List Int)} (h : RowsAt w base ov us rows) : SlII (fun b => base ≤ b) w ov rows :=
  ⟨us, h.len, h.out.sl.weak (fun _b _ hb => hb.1), fun i u x h1 h2 => (show SlI _ _ _ _ from (h.row i u x h1 h2).sl).weak (fun _b _ hb => hb.1)⟩
theorem Own.ch0_ {w w' : World} {base k : Nat} {e : TypeId} {v : Value} {css : List (List Value)} (h : Own w base e k v css) (hc : Ch [] w w') : Own w' base e k v css := h.ch hc (by simp)
theorem SlII.weak_ {p q : Nat → Prop} {w : World} {v : Value} {l : List (List Int)} (h : SlII p w v l) (hk : ∀ b, p b → q b) : SlII q w v l :=
  SlN.imp h (Nat.le_refl _) (fun b _ hp => ⟨hk b hp, rfl⟩) (fun _ _ _ h => h.weak (fun b _ hp => hk b hp))
theorem RowsAt.ch0 {w w' : World} {base : Nat} {ov : Value} {us : List Value} {rows : List (List Int)} (h : RowsAt w base ov us rows) (hc : Ch [] w w') : RowsAt w' base ov us rows :=
  ⟨h.out.ch hc (by simp), h.len, fun i u r h1 h2 => (h.row i u r h1 h2).ch hc (by simp), h.diff⟩
theorem RowsAt.out1 {w wX w1 : World} {base G T c n : Nat} {us : List Value} {rows : List (List Int)} {u : Value} {r : List Int} (h : RowsAt w base (.slice (some ⟨G, 0, none⟩) T c) us rows)
    (hu : us[n]? = some u) (hr : rows[n]? = some r) (hX : Ch [] w wX) (h1 : Ch u.ownBlock.toList wX w1) : Own w1 base 73 1 (.slice (some ⟨G, 0, none⟩) T c) (us.map fun u => [u]) :=
  (h.out.ch hX (by simp)).ch h1 (fun b hb hm => by
    injection hb with hb; subst hb
    have : u.ownBlock = some G := by
      cases hb : u.ownBlock with
      | none => rw [hb] at hm; cases hm
      | some g' => rw [hb] at hm; simp at hm; rw [hm]
    exact (h.row n u r hu hr).differ2 h.out (by decide) this rfl)
theorem RowsAt.step {w wX w1 : World} {base G T c n : Nat} {us : List Value} {rows : List (List Int)} {u v1 : Value} {r : List Int} {x : Int} (h : RowsAt w base (.slice (some ⟨G, 0, none⟩) T c) us rows)
    (hu : us[n]? = some u) (hr : rows[n]? = some r) (hX : Ch [] w wX) (h1 : Ch u.ownBlock.toList wX w1) (ho1 : Own w1 base 3 1 v1 (r.map encI ++ [[.int .i64 x]]))
    (hat : v1.ownBlock = u.ownBlock ∨ v1.ownBlock = some wX.heap.size) : RowsAt (w1.setCell ⟨G, n, none⟩ v1) base (.slice (some ⟨G, 0, none⟩) T c) (us.set n v1) (rows.set n (r ++ [x])) := by
  have hnu : n < us.length := (List.getElem?_eq_some_iff.1 hu).1
  have hnr : n < rows.length := (List.getElem?_eq_some_iff.1 hr).1
  have hrow := h.row n u r hu hr
  have hGu : ∀ g, u.ownBlock = some g → g ≠ G := fun g hg e => by
    subst e
    exact hrow.differ2 h.out (by decide) hg rfl
  have hsX := hX.size
  have hGlt : G < w.heap.size := (h.out.lt (b := G) rfl).2
  have hS : ∀ g, g ∈ u.ownBlock.toList → u.ownBlock = some g := fun g hg => by
    cases hb : u.ownBlock with
    | none => rw [hb] at hg; cases hg
    | some g' => rw [hb] at hg; simp at hg; rw [hg]
  obtain ⟨g1, hg1⟩ : ∃ g, v1.ownBlock = some g := by
    rcases ho1.form with ⟨_, h0⟩ | ⟨g, c, rfl, _⟩
    · simp at h0
    · exact ⟨g, rfl⟩
  have hg1G : g1 ≠ G := by
    rcases hat with e | e
    · exact hGu g1 (e ▸ hg1)
    · rw [e] at hg1; injection hg1 with e; omega
  have hout1 : Own w1 base 73 1 (.slice (some ⟨G, 0, none⟩) T c) (us.map fun u => [u]) :=
    (h.out.ch hX (by simp)).ch h1 (fun b hb hm => by injection hb with hb; subst hb; exact hGu _ (hS _ hm) rfl)
  have hone : v1.oneCell' = true := by
    obtain ⟨a, c, e⟩ := ho1.form'
    rw [e]; rfl
  have hset := hout1.set_ n 0 (cs := [u]) (u := v1) (by simp [hu]) (by omega) hone
  rw [Nat.mul_one, Nat.add_zero] at hset
  have hcS : Ch [G] w1 (w1.setCell ⟨G, n, none⟩ v1) := (Ch.refl _ _).set (by simp) _
  have hmap : (us.map fun u => [u]).set n ([u].set 0 v1) = (us.set n v1).map fun u => [u] := by rw [List.map_set]; rfl
  rw [hmap] at hset
  refine ⟨hset, by simp [h.len], fun i u' r' h2 h3 => ?_, fun i j u' v' hij h2 h3 g hg => ?_⟩
  · rw [List.getElem?_set] at h2 h3
    by_cases hi : n = i
    · subst hi
      rw [if_pos rfl, if_pos hnu] at h2
      rw [if_pos rfl, if_pos hnr] at h3
      injection h2 with h2
      injection h3 with h3
      subst h2 h3
      rw [List.map_append]
      exact ho1.ch hcS (fun b hb hm => by rw [hg1] at hb; injection hb with hb; subst hb; exact hg1G (by simpa using hm))
    · rw [if_neg hi] at h2 h3
      have h4 := h.row i u' r' h2 h3
      refine ((h4.ch hX (by simp)).ch h1 (fun b hb hm => ?_)).ch hcS (fun b hb hm => ?_)
      · exact h.diff n i u u' hi hu h2 b (hS _ hm) hb
      · simp at hm; subst hm
        exact h4.differ2 h.out (by decide) hb rfl
  · rw [List.getElem?_set] at h2 h3
    have hfar : ∀ (k : Nat) (y : Value), k ≠ n → us[k]? = some y → ∀ g, y.ownBlock = some g → v1.ownBlock ≠ some g := fun k y hk hy g hg e => by
      rcases hat with e1 | e1
      · exact h.diff k n y u hk hy hu g hg (e1 ▸ e)
      · rw [e1] at e
        injection e with e
        have hklt : k < rows.length := by rw [← h.len]; exact (List.getElem?_eq_some_iff.1 hy).1
        have := ((h.row k y _ hy (List.getElem?_eq_getElem hklt)).lt hg).2
        omega
    by_cases hi : n = i
    · subst hi
      rw [if_pos rfl, if_pos hnu] at h2
      rw [if_neg hij] at h3
      injection h2 with h2
      subst h2
      intro e
      exact hfar j v' (fun e => hij e.symm) h3 g e hg
    · rw [if_neg hi] at h2
      by_cases hj : n = j
      · subst hj
        rw [if_pos rfl, if_pos hnu] at h3
        injection h3 with h3
        subst h3
        exact hfar i u' (fun e => hi e.symm) h2 g hg
      · rw [if_neg hj] at h3
        exact h.diff i j u' v' hij h2 h3 g hg

/-- what Order hands back -/
def OrdRes (base : Nat) (w : World) (l : List Ru) (v : Value) (n : Int) : Option (List Lv) → Prop
  | none => v = .slice none 0 0 ∧ n = 10
  | some lv => SlII (fun b => base ≤ b) w v (orderOf lv l) ∧ n = 0
theorem LvAns.top {es : List Ed} {N : List ByteArray} {lv : List Lv} (hE : Ends es N) (h : LvAns es N (some lv)) : topOf lv + 1 ≤ N.length ∧ (∀ x ∈ lv, 0 ≤ x.n ∧ x.n < N.length) ∧ lv.length = N.length ∧ ∀ s, ofL lv s = -1 ∨ 0 ≤ ofL lv s := by
  rcases h with ⟨f, h1, h2, h3⟩ | ⟨_, h3⟩
  · injection h3 with h3
    obtain ⟨g, h4, h5⟩ := h1.small hE
    have hlt : ∀ s ∈ N, f s < N.length := fun s hs => Nat.lt_of_le_of_lt (h2 g h4 s) (h5 s hs)
    have hx : ∀ x ∈ lv, 0 ≤ x.n ∧ x.n < N.length := fun x hx => by
      rw [h3] at hx
      obtain ⟨s, hs, rfl⟩ := List.mem_map.1 hx
      have := hlt s hs
      exact ⟨by simp, by simp; omega⟩
    refine ⟨?_, hx, by rw [h3]; simp [lvList], fun s => ?_⟩
    · have := topOf_le lv (-1) ((N.length : Int) - 1) (by omega) (fun x h => by have := hx x h; omega)
      unfold topOf; omega
    · rw [h3, ofL_list]
      split
      · right; omega
      · left; rfl
  · cases h3
theorem topOf_take_le (lv : List Lv) (m : Nat) (h : ∀ x ∈ lv, 0 ≤ x.n ∧ x.n < m) (k : Nat) : -1 ≤ topOf (lv.take k) ∧ topOf (lv.take k) ≤ m :=
  ⟨(topOf_ge (lv.take k) (-1)).1, topOf_le (lv.take k) (-1) m (by omega) fun x hx => by have := h x (List.mem_of_mem_take hx); omega⟩
theorem makeRows (w : World) (n : Nat) (hn : n ≤ 1000000) : ∃ w', (Instr.makeSlice 32 (.int .i64 (n : Int)) (.int .i64 (n : Int))).run Try.prog w = .ok (.slice (some ⟨w.heap.size, 0, none⟩) n n) w' ∧
    Own w' w.heap.size 73 1 (.slice (some ⟨w.heap.size, 0, none⟩) n n) ((List.replicate n (Value.slice none 0 0)).map fun u => [u]) ∧ Ch [] w w' := by
  obtain ⟨i, z, h1, h2, h3, h4, _⟩ := elII.i
  have hz : (Try.prog.info? 73).bind (·.zero) = some (.slice none 0 0) := by kernel_rfl
  rw [h1] at hz
  simp only [Option.bind_some, h2, Option.some.injEq] at hz
  subst hz
  obtain ⟨w', h5, h6, h7⟩ := run_make_full (P := Try.prog) w w.heap.size 32 73 i _ 1 elII.t h1 h2 h3 .i64 .i64 n (by rw [h4]; omega) (by unfold maxLen; omega) (Nat.le_refl _)
  refine ⟨w', h5, ⟨?_, ?_⟩, by simpa using Ch.of_grown h7⟩
  · have e1 : (madeCells (Value.slice none 0 0).cells (n * 1)).toList = List.replicate n (Value.slice none 0 0) := by
      have : (Value.slice none 0 0).cells = #[Value.slice none 0 0] := rfl
      rw [this, Nat.mul_one, toList_madeCells_one]
    rw [e1] at h6
    have e2 : ((List.replicate n (Value.slice none 0 0)).map fun u => [u]).flatten = List.replicate n (Value.slice none 0 0) := by
      induction n with
      | zero => rfl
      | succ n ih => simp
    rw [e2]
    simpa using h6
  · intro cs hcs
    obtain ⟨u, hu, rfl⟩ := List.mem_map.1 hcs
    have := List.eq_of_mem_replicate hu
    subst this
    exact ⟨rfl, by simp [Value.oneCell']⟩
theorem orderOf_len (lv : List Lv) (l : List Ru) : (orderOf lv l).length = (topOf lv + 1).toNat := by simp [orderOf]
theorem orderOf_get (lv : List Lv) (l : List Ru) (i : Nat) : (orderOf lv l)[i]? = if i < (topOf lv + 1).toNat then some (rowOf lv l i) else none := by
  simp only [orderOf, List.getElem?_map]
  split
  · rename_i h; rw [List.getElem?_range h]; rfl
  · rename_i h; rw [List.getElem?_eq_none (by simpa using h)]; rfl
theorem orderOf_nil (lv : List Lv) (n : Nat) (h : n = (topOf lv + 1).toNat) : orderOf lv [] = List.replicate n [] := by
  subst h
  refine List.ext_getElem? fun i => ?_
  rw [orderOf_get, List.getElem?_replicate]
  rfl
theorem orderOf_snoc (lv : List Lv) (l : List Ru) (k : Nat) (h : k < l.length) (n : Nat) (hn : ofL lv l[k].head.name = n) (hnt : n < (topOf lv + 1).toNat) :
    orderOf lv (l.take (k + 1)) = (orderOf lv (l.take k)).set n (rowOf lv (l.take k) n ++ [(k : Int)]) := by
  refine List.ext_getElem? fun i => ?_
  rw [orderOf_get, List.getElem?_set, orderOf_get, orderOf_len]
  by_cases hi : n = i
  · subst hi
    rw [if_pos rfl, if_pos hnt, if_pos hnt, rowOf_snoc lv l n k h, if_pos hn]
  · rw [if_neg hi]
    split
    · rw [rowOf_snoc lv l i k h, if_neg (by rw [hn]; omega)]
    · rfl
theorem orderOf_skip (lv : List Lv) (l : List Ru) (k : Nat) (h : k < l.length) (hn : ofL lv l[k].head.name < 0) : orderOf lv (l.take (k + 1)) = orderOf lv (l.take k) := by
  refine List.ext_getElem? fun i => ?_
  rw [orderOf_get, orderOf_get]
  split
  · rw [rowOf_snoc lv l i k h, if_neg (by omega)]
  · rfl

set_option maxRecDepth 100000 in
set_option maxHeartbeats 4000000 in
theorem strataOrder (p) (v : Value) (l : List Ru) (w : World) (h : SlR p w v l) (hf : Fit l) (hnm : NmOk l) :
    Calls Try.prog 24 #[v] w fun r w' => ∃ v' n o, r = .returned (.tuple #[v', .int .i64 n]) ∧ LvAns (edgesOf l) (relsOf l) o ∧ OrdRes w.heap.size w' l v' n o ∧ Ch [] w w' := by
  have hL := strataLevels p v l w h hf hnm
  have hn1 := relsOf_len hf
  have HF := Lib.hid hf.1
  have HE := Lib.hid (ends_of l)
  generalize relsOf l = N at *
  generalize edgesOf l = es at *
  obtain ⟨a, c, rfl, hlc, hm⟩ := h.form
  unfold maxLen at hm
  go_enter Try.func24, Try.ntmps24
  go_wp2_with (go_at_call 19; refine hL.mono ?_; clear hL; rintro e w1 ⟨v1, n1, o, rfl, ho, hr, hc1⟩; rcases o with _ | lv; all_goals (obtain ⟨hr, rfl⟩ := hr); all_goals (try (obtain ⟨a1, c1, rfl, hl1, hm1⟩ := SlL.form hr)))
  · go_ret2
    exact ⟨_, _, none, rfl, ho, ⟨rfl, rfl⟩, hc1⟩
  · have hs1 := hc1.size
    unfold maxLen at hm1
    obtain ⟨ht1, ht2, ht3, ht4⟩ := ho.top HE.out
    have HT2 := Lib.hid (topOf_take_le lv N.length ht2)
    have hlN : lv.length ≤ 101000 := by omega
    clear ht3
    have HT4 := Lib.hid ht4
    have HT5 := Lib.hid ht2
    have HO := Lib.hid ho
    have ht0 := (topOf_ge lv (-1)).1
    clear ht2 ht4 ho
    go_loopw [6, 23] (fun m i wr => ∃ k : Nat, k ≤ lv.length ∧ i = .int .i64 k ∧ Ch [] w1 wr ∧ m = .int .i64 (topOf (lv.take k))) (fun _ i _ => lv.length - (intOf i).toNat)
    case atStart => exact ⟨0, Nat.zero_le _, rfl, Ch.refl _ _, rfl⟩
    case round =>
      obtain ⟨k, hk, rfl, hB, rfl⟩ := hrel
      by_cases hlt : k < lv.length
      · obtain ⟨b, o, rfl, hp, c0, c1'⟩ := hr.at_ hlt
        have c0 := cell_ch c0 hB (by simp)
        have c1' := cell_ch c1' hB (by simp)
        have HS := Lib.hid (topOf_snoc lv k hlt)
        have htk := HT2.out k
        have hxk := HT5.out _ (List.getElem_mem hlt)
        generalize topOf (lv.take k) = m0 at *
        generalize lv[k] = x at *
        have b1 := (Blk.new wr 42 #[.string x.s, .int .i64 x.n]).cell 1
        go_wp2
        go_roundw
        case rel => exact ⟨k + 1, by omega, by go_num, hB.alloc _, by rw [HS.out]⟩
        case measure => simp [intOf]; omega
      · have : k = lv.length := by omega
        subst this
        rw [List.take_length]
        have hcall := fun (s : ByteArray) (wz : World) (hz : Ch [] w1 wz) => strataOf _ _ lv s wz (hr.ch0 hz)
        have HTL := Lib.hid (fun s => ofL_le_top lv s)
        have HT6 : Hid (∃ t, t = topOf lv) := ⟨_, rfl⟩
        obtain ⟨T, hT⟩ : ∃ T : Nat, T = (topOf lv + 1).toNat := ⟨_, rfl⟩
        have ht0' : -1 ≤ topOf lv := ht0
        have hTi : (T : Int) = topOf lv + 1 := by omega
        have HTT := Lib.hid hT; clear hT
        have hw : IntKind.i64.wrap (topOf lv + 1) = (T : Int) := by rw [← hTi]; simp [IntKind.wrap, IntKind.signed, IntKind.bits]; omega
        have HTI := Lib.hid hTi
        obtain ⟨w2, hmk, ho2, hc2⟩ := makeRows wr T (by omega)
        have hT2 : T ≤ 101000 := by omega
        clear hTi ht0'
        have hB2 := (hc1.trans hB).trans hc2
        have hBr := hB.trans hc2
        have hRows : RowsAt w2 wr.heap.size (.slice (some ⟨wr.heap.size, 0, none⟩) T T) (List.replicate T (.slice none 0 0)) (orderOf lv (l.take 0)) := by
          rw [List.take_zero, orderOf_nil lv T HTT.out]
          refine ⟨ho2, by simp, fun i u r h1 h2 => ?_, fun i j u v _ h1 _ g hg => ?_⟩
          · have e1 := List.eq_of_mem_replicate (List.mem_of_getElem? h1)
            have e2 := List.eq_of_mem_replicate (List.mem_of_getElem? h2)
            subst e1 e2
            exact Own.nil _ _ _ _
          · have e1 := List.eq_of_mem_replicate (List.mem_of_getElem? h1)
            subst e1
            cases hg
        obtain ⟨wb, hwb⟩ : ∃ n, n = wr.heap.size := ⟨_, rfl⟩
        rw [← hwb] at hRows hmk
        have hlb : w.heap.size ≤ wb := by have := hB.size; omega
        have hwb2 : wb ≤ w2.heap.size := by have := hc2.size; omega
        have HWB0 := Lib.hid hwb; clear hwb
        clear ho2
        go_wp2
        obtain ⟨wo, hwo⟩ : ∃ wo : World, wo = wr := ⟨_, rfl⟩
        have hBo : Ch [] wo w2 := by rw [hwo]; exact hc2
        have HWB : Hid (wb = wo.heap.size) := by unfold Hid; rw [hwo]; exact HWB0.out
        have hBw : Ch [] w wo := by rw [hwo]; exact hc1.trans hB
        have hB1o : Ch [] w1 wo := by rw [hwo]; exact hB
        clear hwo
        go_loopw [37] (fun i wq => ∃ (k : Nat) (us : List Value), k ≤ l.length ∧ i = .int .i64 k ∧ Ch [] wo wq ∧ w2.heap.size ≤ wq.heap.size ∧ Hid (RowsAt wq wb (.slice (some ⟨wb, 0, none⟩) T T) us (orderOf lv (l.take k)))) (fun i _ => l.length - (intOf i).toNat)
        case atStart => exact ⟨0, _, Nat.zero_le _, rfl, hBo, Nat.le_refl _, hRows⟩
        case round =>
          obtain ⟨k, us, hk, rfl, hB3, hsz3, HR3⟩ := hrel
          by_cases hltk : k < l.length
          · obtain ⟨b, o, a', c', a'', c'', rfl, hp, c0, c1', c2, hx1, hx2⟩ := h.at_ hltk
            clear hx1 hx2
            have hall := hBw.trans hB3
            have c0 := cell_ch c0 hall (by simp)
            have c1' := cell_ch c1' hall (by simp)
            have c2 := cell_ch c2 hall (by simp)
            have HSN := Lib.hid (orderOf_snoc lv l k hltk)
            have HSK := Lib.hid (orderOf_skip lv l k hltk)
            have hof := HT4.out l[k].head.name
            have htl := HTL.out l[k].head.name
            have HG := Lib.hid (orderOf_get lv (l.take k))
            have HRL := Lib.hid (rowOf_len lv (l.take k))
            have hcall2 := fun wz hz => hcall l[k].head.name wz hz
            generalize l[k].head.name = nm at *
            obtain ⟨wA, hwA⟩ : ∃ wA, wA = wr.alloc (.cells #[.string nm, .slice a' l[k].head.args.length c', .slice a'' l[k].body.length c''] 55) := ⟨_, rfl⟩
            have hcA : Ch [] wr wA := by rw [hwA]; exact (Ch.refl _ _).alloc _
            have hbox : Blk wA wr.heap.size 55 #[.string nm, .slice a' l[k].head.args.length c', .slice a'' l[k].body.length c''] := by rw [hwA]; exact Blk.new _ _ _
            have b0 := hbox.cell 0
            have hRA := HR3.out.ch0 hcA
            have hcall3 := hcall2 wA (hB1o.trans (hB3.trans hcA))
            clear hcall2
            rcases hof with hneg | hpos
            · have HNG := Lib.hid hneg
              rw [hneg] at hcall3
              clear hneg htl
              go_wp2_with (rw [← hwA]; go_at_call 22; refine hcall3.mono ?_; clear hcall3; rintro e w3 ⟨rfl, hc3⟩)
              go_roundw
              case rel => exact ⟨k + 1, us, by omega, by go_num, hB3.trans (hcA.trans hc3), by have := hcA.size; have := hc3.size; omega, by rw [HSK.out (by rw [HNG.out]; omega)]; exact hRA.ch0 hc3⟩
              case measure => simp [intOf]; omega
            · obtain ⟨n, hn⟩ : ∃ n : Nat, ofL lv nm = n := ⟨(ofL lv nm).toNat, by omega⟩
              have HNN := Lib.hid hn
              rw [hn] at hcall3 htl
              have htt := HTI.out
              have hnT : n < T := by omega
              clear htl hpos htt
              have hr : (orderOf lv (l.take k))[n]? = some (rowOf lv (l.take k) n) := by rw [HG.out, if_pos (by rw [← HTT.out]; exact hnT)]
              have hul : n < us.length := by rw [hRA.len]; exact (List.getElem?_eq_some_iff.1 hr).1
              obtain ⟨u, hu⟩ : ∃ u, us[n]? = some u := ⟨_, List.getElem?_eq_getElem hul⟩
              have hrl := HRL.out n
              rw [List.length_take] at hrl
              have HS' : Hid (orderOf lv (l.take (k + 1)) = (orderOf lv (l.take k)).set n (rowOf lv (l.take k) n ++ [(k : Int)])) := HSN.out n HNN.out (by rw [← HTT.out]; exact hnT)
              have HRA := Lib.hid hRA
              have hown := hRA.row n u _ hu hr
              have HHR := Lib.hid hr
              have HHU := Lib.hid hu
              clear hr hu hul hn
              generalize rowOf lv (l.take k) n = r0 at *
              have hlr : (r0.map encI).length = r0.length := by simp
              go_wp2_with (first
                | (rw [← hwA]; go_at_call 22; refine hcall3.mono ?_; clear hcall3; rintro e w3 ⟨rfl, hc3⟩; have hR4 := HRA.out.ch0 hc3; have g0 : w3.cell? ⟨wb, n, none⟩ = some u := (by have := hR4.out.cells_ (i := n) (j := 0) (cs := [u]) (by simp [HHU.out]) rfl; simpa using this); have hown3 := hown.ch0_ hc3)
                | (at_builtin; refine wpList_append_sl rfl _ _ _ rfl elI (base := wb) (v := u) (css := r0.map encI) rfl (hown3.ch0_ ((Ch.refl [] w3).alloc _)) rfl (Sl.one w3 1 _ [.int .i64 (k : Int)] rfl (by simp [Value.oneCell'])) (by have := HF.out; rw [hlr]; simp; omega) (by have := hcA.size; have := hc3.size; simp; omega) ?_; intro v5 w5 ho5 hc5 hat5 hn5; clear hn5; obtain ⟨a5, c5, rfl⟩ := ho5.form'; have e5 : (r0.map encI ++ [[Value.int .i64 (k : Int)]]).length = r0.length + 1 := (by simp); rw [e5] at ho5 hat5; have hO5 := (hR4.out1 HHU.out HHR.out ((Ch.refl [] w3).alloc _) hc5); have f5 := hO5.frozen_ n; have g5 : w5.cell? ⟨wb, n, none⟩ = some u := (by have := hO5.cells_ (i := n) (j := 0) (cs := [u]) (by simp [HHU.out]) rfl; simpa using this)))
              go_roundw
              case rel =>
                have hs3 := hc3.size
                have hsA := hcA.size
                have hs5 := hc5.size
                have hwbo : wo.heap.size ≤ wb := by rw [HWB.out]; exact Nat.le_refl _
                refine ⟨k + 1, us.set n _, by omega, by go_num, Ch.set (((hB3.trans (hcA.trans hc3)).trans ((Ch.refl [] w3).alloc _)).step hc5 (fun y hy => .inr ?_)) (.inr hwbo) _, by simp [World.setCell] at hs5 ⊢; omega, by rw [HS'.out]; exact hR4.step HHU.out HHR.out ((Ch.refl [] w3).alloc _) hc5 ho5 hat5⟩
                cases hub : u.ownBlock with
                | none => rw [hub] at hy; cases hy
                | some g => rw [hub] at hy; simp at hy; subst hy; have := (hown3.lt hub).1; omega
              case measure => simp [intOf]; omega
          · have : k = l.length := by omega
            subst this
            rw [List.take_length] at HR3
            go_wp2
            go_ret2
            have hfin : SlII (fun b => w.heap.size ≤ b) wr (.slice (some ⟨wb, 0, none⟩) T T) (orderOf lv l) := HR3.out.sl.weak_ (fun b hb => by omega)
            exact ⟨_, _, some lv, rfl, HO.out, ⟨hfin, rfl⟩, hBw.trans hB3⟩
end Go.Proofs.Ytbjdikeaolibpaa
