
/-
  The contracts of depend.following, reached, Reach, Recursive.
-/
import Derived.Test.YtgljjapglgcpdaaGreatDoorDeps
import Derived.Test.YtgljjapglgcpdaaGreatDoorStep
import Derived.Test.YtgljjapglgcpdaaGreatDoorFacts
import Derived.Deep.RegionHeld3
import Derived.Deep.RegionLaw
namespace Go.Proofs.YtgljjapglgcpdaaGreatDoor
open Go.RowKit

theorem mL : Tryz.prog.underlying 151 = some (.map 9 51) := Tryz.underlying151
theorem zL (w : World) : (zeroValue 51).run Tryz.prog w = .ok (.slice none 0 0) w := Tryz.zeroValue51 w

/-- the targets of the edges that lead from s -/
def tosOf (es : List Ed) (s : ByteArray) : List ByteArray := (es.filter fun e => decide (e.f = s)).map (·.t)
theorem tosOf_snoc (es : List Ed) (s : ByteArray) (k : Nat) (h : k < es.length) : tosOf (es.take (k + 1)) s = if es[k].f = s then tosOf (es.take k) s ++ [es[k].t] else tosOf (es.take k) s := by
  simp only [tosOf, take_snoc es k h, List.filter_append, List.map_append, List.filter_cons, List.filter_nil]
  split <;> simp_all
theorem tosOf_len (es : List Ed) (s : ByteArray) : (tosOf es s).length ≤ es.length := by
  simp only [tosOf, List.length_map]; exact List.length_filter_le _ _

/-- the map of the edges: each name from which one leads has the row of its targets, in a block of its own -/
def NextAt (w : World) (base B : Nat) (es : List Ed) : Prop := ∃ kv : List (ByteArray × Value), MapAt w encB B kv ∧ (∀ x ∈ kv, tosOf es x.1 ≠ [] ∧ Own w base 9 1 x.2 ((tosOf es x.1).map encS)) ∧
  (∀ s, s ∉ kv.map (·.1) → tosOf es s = []) ∧ ∀ x ∈ kv, ∀ y ∈ kv, x.1 ≠ y.1 → x.2.ownBlock ≠ y.2.ownBlock

theorem mem_aset_ {kv : List (ByteArray × Value)} {a : ByteArray} {v : Value} {x : ByteArray × Value} (hn : (kv.map (·.1)).Nodup) (h : x ∈ aset kv a v) : x = (a, v) ∨ (x ∈ kv ∧ x.1 ≠ a) := by
  induction kv with
  | nil => simp [aset] at h; exact .inl h
  | cons y r ih =>
    simp only [List.map_cons, List.nodup_cons] at hn
    simp only [aset] at h
    split at h
    · rename_i hy
      rcases List.mem_cons.1 h with h | h
      · exact .inl h
      · exact .inr ⟨List.mem_cons_of_mem _ h, fun e => hn.1 (by rw [hy, ← e]; exact List.mem_map.2 ⟨x, h, rfl⟩)⟩
    · rename_i hy
      rcases List.mem_cons.1 h with h | h
      · subst h; exact .inr ⟨by simp, hy⟩
      · rcases ih hn.2 h with h1 | ⟨h1, h2⟩
        · exact .inl h1
        · exact .inr ⟨List.mem_cons_of_mem _ h1, h2⟩
theorem Own.some_ {w : World} {base : Nat} {e : TypeId} {k : Nat} {v : Value} {css : List (List Value)} (h : Own w base e k v css) (hne : css ≠ []) : ∃ g, v.ownBlock = some g := by
  rcases h.form with ⟨_, h0⟩ | ⟨g, c, rfl, _⟩
  · exact absurd h0 hne
  · exact ⟨g, rfl⟩
theorem Own.not_map {w : World} {base B : Nat} {e : TypeId} {k : Nat} {v : Value} {css : List (List Value)} {kv : List (ByteArray × Value)} (h : Own w base e k v css) (hM : MapAt w encB B kv) {g : Nat} (hg : v.ownBlock = some g) : g ≠ B := by
  intro e1
  subst e1
  obtain ⟨es', cl, h1, _⟩ := hM
  rcases h.1.2 with ⟨rfl, _⟩ | ⟨g', cap, cur, rfl, _, h2, _⟩
  · cases hg
  · simp [Value.ownBlock] at hg; subst hg; rw [h1] at h2; cases h2

theorem next_step {wr wX w1 w2 : World} {base B : Nat} {es : List Ed} {k : Nat} (hk : k < es.length) {kv : List (ByteArray × Value)} {v0 v1 : Value} (_hbB : base ≤ B)
    (hM : MapAt wr encB B kv) (hO : ∀ x ∈ kv, tosOf (es.take k) x.1 ≠ [] ∧ Own wr base 9 1 x.2 ((tosOf (es.take k) x.1).map encS)) (hnone : ∀ s, s ∉ kv.map (·.1) → tosOf (es.take k) s = [])
    (hdist : ∀ x ∈ kv, ∀ y ∈ kv, x.1 ≠ y.1 → x.2.ownBlock ≠ y.2.ownBlock) (hv0 : (aget kv es[k].f).getD (.slice none 0 0) = v0) (hX : Ch [] wr wX) (h1 : Ch v0.ownBlock.toList wX w1)
    (ho1 : Own w1 base 9 1 v1 ((tosOf (es.take k) es[k].f).map encS ++ [[.string es[k].t]])) (hat : v1.ownBlock = v0.ownBlock ∨ v1.ownBlock = some wX.heap.size) (hm2 : MapAt w2 encB B (aset kv es[k].f v1)) (h2 : Ch [B] w1 w2) :
    NextAt w2 base B (es.take (k + 1)) := by
  have hml := hM.lt
  have hsX := hX.size
  have hv0B : ∀ g, v0.ownBlock = some g → g ≠ B ∧ g < wr.heap.size := by
    intro g hg
    cases ha : aget kv es[k].f with
    | none => rw [ha] at hv0; simp at hv0; subst hv0; cases hg
    | some u =>
      rw [ha] at hv0; simp at hv0; subst hv0
      obtain ⟨j, hj⟩ := aget_idx ha
      have := (hO _ (List.mem_of_getElem? hj)).2
      exact ⟨this.not_map hM hg, (this.lt hg).2⟩
  obtain ⟨g1, hg1⟩ := ho1.some_ (by simp)
  have hg1B : g1 ≠ B := by
    rcases hat with h | h
    · exact (hv0B g1 (h ▸ hg1)).1
    · rw [h] at hg1; injection hg1 with e; omega
  have hold : ∀ x ∈ kv, x.1 ≠ es[k].f → ∀ g, x.2.ownBlock = some g → g ∉ v0.ownBlock.toList ∧ g ≠ B ∧ g ≠ g1 := by
    intro x hx hxf g hg
    have hxo := (hO x hx).2
    have a1 : v0.ownBlock ≠ some g := by
      intro hv
      cases ha : aget kv es[k].f with
      | none => rw [ha] at hv0; simp at hv0; subst hv0; cases hv
      | some u =>
        rw [ha] at hv0; simp at hv0; subst hv0
        obtain ⟨j, hj⟩ := aget_idx ha
        exact hdist x hx _ (List.mem_of_getElem? hj) hxf (hg.trans hv.symm)
    refine ⟨fun hm => ?_, hxo.not_map hM hg, fun e => ?_⟩
    · cases hb : v0.ownBlock with
      | none => rw [hb] at hm; cases hm
      | some g' => rw [hb] at hm; simp at hm; subst hm; exact a1 hb
    · subst e
      rcases hat with h | h
      · exact a1 (h ▸ hg1)
      · rw [h] at hg1; injection hg1 with e; have := (hxo.lt hg).2; omega
  refine ⟨_, hm2, fun x hx => ?_, fun s hs => ?_, fun x hx y hy hxy => ?_⟩
  · rcases mem_aset_ hM.nodup hx with rfl | ⟨hx, hne⟩
    · refine ⟨by rw [tosOf_snoc es _ k hk]; simp, ?_⟩
      rw [tosOf_snoc es _ k hk, if_pos rfl, List.map_append]
      exact ho1.ch h2 (fun g hg => by rw [hg1] at hg; injection hg with e; subst e; simpa using hg1B)
    · rw [tosOf_snoc es _ k hk, if_neg (fun e => hne e.symm)]
      obtain ⟨a1, a2⟩ := hO x hx
      have hh := hold x hx hne
      exact ⟨a1, ((a2.ch hX (by simp)).ch h1 (fun g hg => (hh g hg).1)).ch h2 (fun g hg => by simpa using (hh g hg).2.1)⟩
  · rw [mem_aset] at hs
    rw [tosOf_snoc es _ k hk, if_neg (fun e => hs (.inl e.symm))]
    exact hnone s (fun h => hs (.inr h))
  · rcases mem_aset_ hM.nodup hx with rfl | ⟨hx, hne⟩ <;> rcases mem_aset_ hM.nodup hy with rfl | ⟨hy, hne'⟩
    · exact absurd rfl hxy
    · obtain ⟨g, hg⟩ := (hO y hy).2.some_ (by simpa using (hO y hy).1)
      rw [hg1, hg]; intro e; injection e with e; exact (hold y hy hne' g hg).2.2 e.symm
    · obtain ⟨g, hg⟩ := (hO x hx).2.some_ (by simpa using (hO x hx).1)
      rw [hg1, hg]; intro e; injection e with e; exact (hold x hx hne g hg).2.2 e
    · exact hdist x hx y hy hxy

theorem look_s {w : World} {B : Nat} {kv : List (ByteArray × Value)} (h : MapAt w encB B kv) (s : ByteArray) : (Instr.lookup 151 (.map (some B)) (.string s) false).run Tryz.prog w = .ok ((aget kv s).getD (.slice none 0 0)) w := by
  have := h.look kS mL (zL w) s false
  simpa [encB] using this
theorem upd_s {w : World} {B : Nat} {kv : List (ByteArray × Value)} (h : MapAt w encB B kv) (s : ByteArray) (v : Value) :
    ∃ w', (Instr.mapUpdate 151 (.map (some B)) (.string s) v).run Tryz.prog w = .ok () w' ∧ MapAt w' encB B (aset kv s v) ∧ Ch [B] w w' ∧ w'.heap.size = w.heap.size := h.upd kS mL s v
theorem MapAt.drew_ {w : World} {B : Nat} {kv : List (ByteArray × Value)} (h : MapAt w encB B kv) : MapAt w.drew encB B kv := h

set_option maxRecDepth 100000 in
set_option maxHeartbeats 1000000 in
theorem following_ (p) (v : Value) (es : List Ed) (w : World) (h : SlE p w v es) (hf : es.length ≤ 1000000) :
    Calls Tryz.prog 94 #[v] w fun r w' => ∃ B, r = .returned (.map (some B)) ∧ w.heap.size ≤ B ∧ NextAt w' w.heap.size B es ∧ Ch [] w w' := by
  obtain ⟨a, c, rfl, hlc, hm⟩ := h.form
  unfold maxLen at hm
  have hmm := @run_makeMap Tryz.prog
  go_enter Tryz.func94, Tryz.ntmps94
  go_wp2
  go_loopw [9] (fun i wr => ∃ (k : Nat), k ≤ es.length ∧ i = .int .i64 k ∧ Ch [] w wr ∧ Hid (NextAt wr w.heap.size w.heap.size (es.take k))) (fun i _ => es.length - (intOf i).toNat)
  case atStart => exact ⟨0, Nat.zero_le _, rfl, (Ch.refl _ _).alloc _, ⟨[], MapAt.new _ _, by simp, by simp [tosOf], by simp⟩⟩
  case round =>
    obtain ⟨k, hk, rfl, hB, HN⟩ := hrel
    by_cases hlt : k < es.length
    · obtain ⟨b, o, rfl, hp, c0, c1, c2⟩ := h.at_ hlt
      have c0 := cell_ch c0 hB (by simp)
      have c1 := cell_ch c1 hB (by simp)
      have c2 := cell_ch c2 hB (by simp)
      obtain ⟨kv, hM, hO, hnone, hdist⟩ := HN.out
      obtain ⟨v0, hv0e, hv0⟩ : ∃ v0, (aget kv es[k].f).getD (.slice none 0 0) = v0 ∧ Own wr w.heap.size 9 1 v0 ((tosOf (es.take k) es[k].f).map encS) := by
        cases hg : aget kv es[k].f with
        | none => exact ⟨_, rfl, by rw [hnone _ ((aget_none _ _).1 hg)]; exact Own.nil _ _ _ _⟩
        | some v0 => obtain ⟨j, hj⟩ := aget_idx hg; exact ⟨_, rfl, (hO _ (List.mem_of_getElem? hj)).2⟩
      have hBv : ∀ g, v0.ownBlock = some g → w.heap.size ≠ g := by
        intro g hg e
        subst e
        obtain ⟨es', cl, h1, _⟩ := hM
        rcases hv0.1.2 with ⟨rfl, _⟩ | ⟨g', cap, cur, rfl, _, h2, _⟩
        · cases hg
        · simp [Value.ownBlock] at hg; subst hg; rw [h1] at h2; cases h2
      have hnot : ∀ g, g = w.heap.size ∨ wr.heap.size ≤ g → g ∉ v0.ownBlock.toList := by
        intro g hg hm
        cases hb : v0.ownBlock with
        | none => rw [hb] at hm; cases hm
        | some g' =>
          rw [hb] at hm
          simp at hm; subst hm
          rcases hg with hg | hg
          · exact hBv g hb hg.symm
          · have := (hv0.lt hb).2; omega
      have hml := hM.lt
      have hsz := hB.size
      obtain ⟨wA, hwA⟩ : ∃ wA, wA = wr.alloc (.cells #[.string es[k].f, .string es[k].t, .bool es[k].n] 103) := ⟨_, rfl⟩
      have hbox : Blk wA wr.heap.size 103 #[.string es[k].f, .string es[k].t, .bool es[k].n] := by rw [hwA]; exact Blk.new _ _ _
      have hcA : Ch [] wr wA := by rw [hwA]; exact (Ch.refl _ _).alloc _
      have hMA : MapAt wA encB w.heap.size kv := hM.ch hcA (by simp)
      have hvA : Own wA w.heap.size 9 1 v0 ((tosOf (es.take k) es[k].f).map encS) := hv0.ch hcA (by simp)
      have b0 := hbox.cell 0
      have b1 := hbox.cell 1
      have b2 := (hbox.alloc (.cells #[.string es[k].t] 9)).cell 0
      have l1 := look_s hMA.drew_ es[k].f
      have l2 := look_s (hMA.alloc (.cells #[.string es[k].t] 9)).drew_ es[k].f
      rw [hv0e] at l1 l2
      have hlen := tosOf_len (es.take k) es[k].f
      rw [List.length_take] at hlen
      have HSN := Lib.hid (fun s => tosOf_snoc es s k hlt)
      have HV := Lib.hid hv0e; clear hv0e
      have HO := Lib.hid hO; clear hO
      have HNO := Lib.hid hnone; clear hnone
      have HD := Lib.hid hdist; clear hdist
      have HBV := Lib.hid hBv; clear hBv
      have HNT := Lib.hid hnot; clear hnot
      go_wp2
      rw [← hwA]
      clear hwA
      go_region_law (first | (refine step_append_sl rfl _ _ _ rfl elS (base := w.heap.size) (v := v0) rfl (hvA.ch (((Ch.refl [] wA).alloc _).drew) (by simp)) rfl (Sl.one _ 1 9 [.string es[k].t] rfl (by simp [Value.oneCell'])) (by simp; omega) (by have := hcA.size; simp; omega) ?_; intro v1 w1 ho1 hc1 hat1 hn1; have b3 := ((hbox.alloc (.cells #[.string es[k].t] 9)).drew.ch hc1 (HNT.out _ (.inr (Nat.le_refl _)))).cell 0; obtain ⟨w2, hrun2, hm2, hc2, hs2⟩ := upd_s ((hMA.alloc (.cells #[.string es[k].t] 9)).drew_.ch hc1 (HNT.out _ (.inl rfl))) es[k].f v1))
      all_goals
        have hnx := next_step hlt (Nat.le_refl _) hM HO.out HNO.out HD.out HV.out (hcA.trans (((Ch.refl [] wA).alloc _).drew)) hc1 ho1 hat1 hm2 hc2
        have hcw : Ch [] w w2 := ((hB.trans (hcA.trans (((Ch.refl [] wA).alloc _).drew))).step hc1 (fun x hx => .inr (by
          cases hb : v0.ownBlock with
          | none => rw [hb] at hx; cases hx
          | some g => rw [hb] at hx; simp at hx; subst hx; exact (hv0.lt hb).1))).step hc2 (by simp)
        have HNX := Lib.hid hnx; clear hnx
        go_wp2
        go_roundw
        case rel => exact ⟨k + 1, by omega, by go_num, hcw, HNX.out⟩
        case measure => simp [intOf]; omega
    · have : k = es.length := by omega
      subst this
      rw [List.take_length] at HN
      go_wp2
      go_ret
      exact ⟨_, rfl, Nat.le_refl _, HN.out, hB⟩
end Go.Proofs.YtgljjapglgcpdaaGreatDoor
