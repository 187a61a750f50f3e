
/-
  The contracts of depend.Heads and depend.Relations.
-/
import Derived.Test.YtaaomocodkpmfaaGreatDoorAscend
namespace Go.Proofs.YtaaomocodkpmfaaGreatDoor
open Go.RowKit Go.MapKept

/-- all names can be keys -/
def NmOk (l : List Ru) : Prop := ∀ r ∈ l, r.head.name.size ≤ maxLen ∧ ∀ x ∈ r.body, x.atom.name.size ≤ maxLen

/-- the keys of a set whose members are told by M -/
def SetOf {α : Type} (M : α → Prop) (kv : List (α × Value)) : Prop := (kv.map (·.1)).Nodup ∧ ∀ s, s ∈ kv.map (·.1) ↔ M s
theorem SetOf.add {α : Type} [DecidableEq α] {M M' : α → Prop} {kv : List (α × Value)} (h : SetOf M kv) (a : α) (v : Value) (hM : ∀ s, M' s ↔ s = a ∨ M s) : SetOf M' (aset kv a v) :=
  ⟨nodup_aset _ _ _ h.1, fun s => by rw [mem_aset, h.2, hM]⟩
theorem SetOf.del {α : Type} [DecidableEq α] {M : α → Prop} {kv : List (α × Value)} (h : SetOf M kv) (a : α) : SetOf (fun s => s ≠ a ∧ M s) (adel kv a) :=
  ⟨nodup_adel h.1, fun s => by rw [mem_adel _ h.1, h.2]⟩
theorem SetOf.iff {α : Type} {M M' : α → Prop} {kv : List (α × Value)} (h : SetOf M kv) (hM : ∀ s, M' s ↔ M s) : SetOf M' kv := ⟨h.1, fun s => by rw [h.2, hM]⟩
theorem SetOf.empty {α : Type} {M : α → Prop} (hM : ∀ s, ¬ M s) : SetOf M [] := ⟨List.nodup_nil, fun s => Iff.intro (fun h => (List.not_mem_nil h).elim) (fun h => absurd h (hM s))⟩

theorem take_ex {α : Type} {l : List α} {k : Nat} (h : k < l.length) {P : α → Prop} : (∃ r ∈ l.take (k + 1), P r) ↔ P l[k] ∨ ∃ r ∈ l.take k, P r := by
  rw [take_snoc l k h]
  constructor
  · rintro ⟨r, hr, hp⟩
    rcases List.mem_append.1 hr with h1 | h1
    · exact .inr ⟨r, h1, hp⟩
    · simp at h1; subst h1; exact .inl hp
  · rintro (hp | ⟨r, h1, hp⟩)
    · exact ⟨l[k], List.mem_append.2 (.inr (List.mem_singleton.2 rfl)), hp⟩
    · exact ⟨r, List.mem_append.2 (.inl h1), hp⟩
theorem set_heads {l : List Ru} {kv : List (ByteArray × Value)} (h : SetOf (fun s => ∃ r ∈ l, r.head.name = s) kv) : insAll ((adel kv dis).map (·.1)) = headsOf l :=
  asc_ext sLt_sto (asc_insAll _) (asc_headsOf _) fun s => by rw [mem_insAll, (h.del dis).2, mem_headsOf]
theorem set_rels {l : List Ru} {kv : List (ByteArray × Value)} (h : SetOf (fun s => ∃ r ∈ l, r.head.name = s ∨ ∃ x ∈ r.body, x.atom.name = s) kv) : insAll ((adel kv dis).map (·.1)) = relsOf l :=
  asc_ext sLt_sto (asc_insAll _) (asc_relsOf _) fun s => by rw [mem_insAll, (h.del dis).2, mem_relsOf]
theorem insAll_len (l : List ByteArray) (h : l.Nodup) : (insAll l).length = l.length :=
  Nat.le_antisymm ((asc_nodup sLt_sto (asc_insAll l)).length_le_of_subset fun x hx => (mem_insAll l x).1 hx) (h.length_le_of_subset fun x hx => (mem_insAll l x).2 hx)
theorem keys_in {kv : List (ByteArray × Value)} {P : ByteArray → Prop} (h : ∀ s ∈ kv.map (·.1), P s) : ∀ x ∈ kv, P x.1 := fun x hx => h _ (List.mem_map.2 ⟨x, hx, rfl⟩)

/-- the names of a rule -/
def RuN (r : Ru) (s : ByteArray) : Prop := r.head.name = s ∨ ∃ x ∈ r.body, x.atom.name = s
theorem rels_in {l : List Ru} (hnm : NmOk l) {r : Ru} (hr : r ∈ l) {s : ByteArray} (h : RuN r s) : s.size ≤ maxLen := by
  rcases h with rfl | ⟨x, hx, rfl⟩
  · exact (hnm r hr).1
  · exact (hnm r hr).2 x hx

set_option maxRecDepth 100000 in
set_option maxHeartbeats 1000000 in
theorem depRelations (p) (v : Value) (l : List Ru) (w : World) (h : SlR p w v l) (hf : Fit l) (hnm : NmOk l) :
    Calls Tryz.prog 72 #[v] w fun r w' => ∃ v', r = .returned v' ∧ SlS (fun b => w.heap.size ≤ b) w' v' (relsOf l) ∧ Ch [] w w' := by
  obtain ⟨a, c, rfl, hlc, hm⟩ := h.form
  unfold maxLen at hm
  have HF := Lib.hid hf; clear hf
  have HN := Lib.hid hnm; clear hnm
  have hmm := @run_makeMap Tryz.prog
  go_enter Tryz.func72, Tryz.ntmps72
  go_wp2
  go_loopw [11] (fun i wr => ∃ (k : Nat) (kv : List (ByteArray × Value)), k ≤ l.length ∧ i = .int .i64 k ∧ Ch [] w wr ∧ MapAt wr encB w.heap.size kv ∧ Hid (SetOf (fun s => ∃ r ∈ l.take k, RuN r s) kv)) (fun i _ => l.length - (intOf i).toNat)
  case atStart => exact ⟨0, [], Nat.zero_le _, rfl, (Ch.refl _ _).alloc _, MapAt.new _ _, SetOf.empty (by simp)⟩
  case round =>
    obtain ⟨k, kv, hk, rfl, hB, hM, HS⟩ := hrel
    by_cases hlt : k < l.length
    · obtain ⟨b, o, a', c', a'', c'', rfl, hp, c0, c1, c2, hT, hL⟩ := h.at_ hlt
      have c0 := cell_ch c0 hB (by simp)
      have c1 := cell_ch c1 hB (by simp)
      have c2 := cell_ch c2 hB (by simp)
      have hs0 := hB.size
      have hml := hM.lt
      have HS2 := Lib.hid (HS.out.add l[k].head.name (.bool true) (M' := fun s => (∃ r ∈ l.take k, RuN r s) ∨ l[k].head.name = s ∨ ∃ x ∈ l[k].body.take 0, x.atom.name = s) (fun s => by simp only [List.take_zero, List.not_mem_nil, false_and, exists_false, or_false]; rw [eq_comm (a := s)]; exact Or.comm))
      go_wp2_with (first | (at_mapUpdate; refine wpl_upd rfl _ _ _ _ rfl kS mS rfl (b := w.heap.size) (kv := kv) (hM.alloc _) l[k].head.name rfl rfl ?_; intro w1 hm1 hc1 hs1; have d2 := ((Blk.new wr 27 #[.string l[k].head.name, .slice a' l[k].head.args.length c', .slice a'' l[k].body.length c'']).ch hc1 (by simp; omega)).cell 2))
      have hB1 : Ch [] w w1 := (hB.alloc _).step hc1 (by simp)
      obtain ⟨a3, c3, e3, _, hm3⟩ := hL.form
      injection e3 with e31 _ e32
      subst e31 e32
      unfold maxLen at hm3
      go_loopw [22] (fun i wq => ∃ (m : Nat) (kv : List (ByteArray × Value)), m ≤ l[k].body.length ∧ i = .int .i64 m ∧ Ch [] w wq ∧ MapAt wq encB w.heap.size kv ∧ Hid (SetOf (fun s => (∃ r ∈ l.take k, RuN r s) ∨ l[k].head.name = s ∨ ∃ x ∈ l[k].body.take m, x.atom.name = s) kv)) (fun i _ => l[k].body.length - (intOf i).toNat)
      case atStart => exact ⟨0, _, Nat.zero_le _, rfl, hB1, hm1, HS2⟩
      case round =>
        obtain ⟨m, kv', hmk, rfl, hB2, hM2, HS3⟩ := hrel
        by_cases hlt2 : m < l[k].body.length
        · obtain ⟨b2, o2, a2, c2', rfl, hp2, e0, e1, e2, hT2⟩ := hL.at_ hlt2
          have e0 := cell_ch e0 hB2 (by simp)
          have e1 := cell_ch e1 hB2 (by simp)
          have e2 := cell_ch e2 hB2 (by simp)
          have HS4 := Lib.hid (HS3.out.add l[k].body[m].atom.name (.bool true) (M' := fun s => (∃ r ∈ l.take k, RuN r s) ∨ l[k].head.name = s ∨ ∃ x ∈ l[k].body.take (m + 1), x.atom.name = s) (fun s => by rw [take_ex (P := fun x : Li => x.atom.name = s) hlt2, eq_comm (a := s)]; grind))
          go_wp2_with (first | (at_mapUpdate; refine wpl_upd rfl _ _ _ _ rfl kS mS rfl (b := w.heap.size) (kv := kv') (hM2.alloc _) l[k].body[m].atom.name rfl rfl ?_; intro w2 hm2 hc2 hs2))
          go_roundw
          case rel => exact ⟨m + 1, _, by omega, by go_num, (hB2.alloc _).step hc2 (by simp), hm2, HS4⟩
          case measure => simp [intOf]; omega
        · have : m = l[k].body.length := by omega
          subst this
          rw [List.take_length] at HS3
          have HS4 := Lib.hid (HS3.out.iff (M' := fun s => ∃ r ∈ l.take (k + 1), RuN r s) (fun s => by rw [take_ex (P := fun r : Ru => RuN r s) hlt]; unfold RuN; exact Or.comm))
          go_wp2
          go_roundw
          case rel => exact ⟨k + 1, _, by omega, by go_num, hB2, hM2, HS4⟩
          case measure => simp [intOf]; omega
    · have : k = l.length := by omega
      subst this
      rw [List.take_length] at HS
      have HX := Lib.hid (set_rels HS.out)
      have hd := Lib.hid (HS.out.del dis)
      have hk1 : ∀ x ∈ adel kv dis, x.1.size ≤ maxLen := keys_in (P := fun s => s.size ≤ maxLen) fun s hs => by obtain ⟨_, r, hr, hn⟩ := (hd.out.2 s).1 hs; exact rels_in HN.out hr hn
      have hk2 : (adel kv dis).length ≤ 8000000000000 := by
        have h1 := insAll_len _ hd.out.1
        rw [HX.out, List.length_map] at h1
        have := relsOf_len HF.out
        omega
      have HK1 := Lib.hid hk1; clear hk1
      go_wp2_with (first
        | (at_delete; refine wpl_del rfl _ _ _ _ rfl kS mS rfl (b := w.heap.size) (kv := kv) hM dis rfl ?_; intro w1 hm1 hc1 hs1)
        | (go_at_call 103; refine (ascending _ _ _ hm1 HK1.out hk2).mono ?_; rintro e w2 ⟨v2, rfl, hv2, hc2⟩))
      go_ret
      have hB1 : Ch [] w w1 := hB.step hc1 (by simp)
      have hs := hB1.size
      exact ⟨_, rfl, by rw [← HX.out]; exact hv2.weak (fun b _ hb => by omega), hB1.trans hc2⟩
end Go.Proofs.YtaaomocodkpmfaaGreatDoor
