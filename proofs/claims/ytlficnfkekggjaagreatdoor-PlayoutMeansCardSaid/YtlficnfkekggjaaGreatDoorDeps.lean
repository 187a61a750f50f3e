
/-
  The contract of depend.ascending: the names of a set, ascending.
  The contracts of depend.Heads and depend.Relations.
-/
import Derived.Test.YtlficnfkekggjaaGreatDoorMaps
import Derived.Test.YtlficnfkekggjaaGreatDoorOrder
import Derived.Test.YtlficnfkekggjaaGreatDoorLays
import Derived.Test.YtlficnfkekggjaaGreatDoorStep
namespace Go.Proofs.YtlficnfkekggjaaGreatDoor

section
open Go.RowKit Go.MapKept Go.Maps Go.Sort Go.Shelf

def toBs (xs : List UInt8) : ByteArray := ⟨xs.toArray⟩
theorem toBs_data (s : ByteArray) : toBs s.data.toList = s := rfl
theorem toList_bs (s : ByteArray) : s.toList = s.data.toList := ByteArray.toList_eq _

theorem owns_of {w : World} {b : Nat} {kv : List (ByteArray × Value)} (h : MapAt w encB b kv) (hs : ∀ x ∈ kv, x.1.size ≤ maxLen) (hn : kv.length ≤ maxLen) :
    ∃ D : DataW Nat, w.ownsMap Tryz.prog 9 (fun _ => some (.nil, [])) b kv.length D ∧ (Go.strKeys D).Perm (kv.map fun x => x.1.data.toList) ∧ Maps.size D = kv.length := by
  obtain ⟨es, clock, hb, hk, hv, hnd, hbo, hbn⟩ := h
  have hlen : es.toList.length = kv.length := by simpa using congrArg List.length hk
  have hrd : ∀ x ∈ es.toList, ∃ s : ByteArray, x.key = .string s ∧ s.size ≤ maxLen ∧ Go.WideElems.rd Tryz.prog 9 (fun _ => some ((.nil : DataW Nat), [])) x = some (.string s.data.toList, .nil) := by
    intro x hx
    obtain ⟨j, hj⟩ := List.mem_iff_getElem?.1 hx
    obtain ⟨y, hy, hkey⟩ := ent_of hk hj
    refine ⟨y.1, hkey, hs y (List.mem_of_getElem? hy), ?_⟩
    have hsz := hs y (List.mem_of_getElem? hy)
    simp only [encB] at hkey
    simp [Go.WideElems.rd, hkey, keyOf, mapKey, Tryz.underlying9, hsz]
  refine ⟨.map ((es.toList.map (Go.WideElems.rg Tryz.prog 9 (fun _ => some (.nil, [])))).foldr DataW.insert []), ⟨es, clock, hb, ⟨?_, ?_, ?_⟩, ?_, rfl⟩, ?_, ?_⟩
  · rw [← hlen] at hn; simpa using hn
  · refine ⟨hbo, hbn, ?_⟩
    rw [hk]
    have : (kv.map fun x => encB x.1) = (kv.map (·.1)).map encB := by rw [List.map_map]; rfl
    rw [this]
    exact List.pairwise_map.2 (hnd.imp fun {a b} hab e => hab (by simpa [encB] using e))
  · intro x hx; obtain ⟨s, _, _, h⟩ := hrd x hx; exact ⟨_, h⟩
  · have : es.size = es.toList.length := by simp
    omega
  · refine ((Go.WideShapes.sorted_perm _).map _).trans ?_
    rw [List.map_map]
    refine List.Perm.of_eq ?_
    have h1 : es.toList.map ((fun p : Lit × DataW Nat => strOf p.1) ∘ Go.WideElems.rg Tryz.prog 9 (fun _ => some (.nil, []))) = es.toList.map (fun x => match x.key with | .string s => s.data.toList | _ => []) := by
      refine List.map_congr_left fun x hx => ?_
      obtain ⟨s, hs1, _, h⟩ := hrd x hx
      simp [Go.WideElems.rg, h, hs1, strOf]
    rw [h1]
    have h2 : es.toList.map (fun x => match x.key with | .string s => s.data.toList | _ => []) = (es.toList.map (·.key)).map (fun v => match v with | .string s => s.data.toList | _ => []) := by rw [List.map_map]; rfl
    rw [h2, hk, List.map_map]; rfl
  · show List.length _ = _
    rw [(Go.WideShapes.sorted_perm _).length_eq, List.length_map, hlen]

/-- a permutation of a set's names, sorted as bytes, is the ascending list of the names -/
theorem sorted_eq {ss : List (List UInt8)} {ks : List ByteArray} (hp : ss.Perm (ks.map fun x => x.data.toList)) (hn : ks.Nodup) : (ss.mergeSort (fun x y => decide (x ≤ y))).map toBs = insAll ks := by
  have tr : ∀ a b c : List UInt8, decide (a ≤ b) = true → decide (b ≤ c) = true → decide (a ≤ c) = true := fun a b c h1 h2 => by simp only [decide_eq_true_eq] at *; exact List.le_trans h1 h2
  have to : ∀ a b : List UInt8, (decide (a ≤ b) || decide (b ≤ a)) = true := fun a b => by simp only [Bool.or_eq_true, decide_eq_true_eq]; exact List.le_total a b
  have hperm : (ss.mergeSort (fun x y => decide (x ≤ y))).Perm (ks.map fun x => x.data.toList) := (List.mergeSort_perm ss _).trans hp
  have hpw := List.pairwise_mergeSort tr to ss
  have hinj : ∀ a b : ByteArray, a.data.toList = b.data.toList → a = b := fun a b h => ByteArray.ext (Array.toList_inj.1 h)
  have hnd : (ss.mergeSort (fun x y => decide (x ≤ y))).Nodup := by
    refine hperm.nodup_iff.2 (List.pairwise_map.2 (hn.imp fun {a b} hab e => hab (hinj a b e)))
  refine asc_ext sLt_sto ?_ (asc_insAll _) fun x => ?_
  · refine List.pairwise_map.2 ((hpw.and hnd).imp fun {a b} hab => ?_)
    obtain ⟨h1, h2⟩ := hab
    simp only [decide_eq_true_eq] at h1
    show Op.bytesLess (toBs a).toList (toBs b).toList = true
    rw [toList_bs, toList_bs, bytesLess_eq]
    show decide (a < b) = true
    rw [decide_eq_true_eq]
    exact Classical.byContradiction fun h => h2 (List.le_antisymm h1 (List.not_lt.1 h))
  · rw [mem_insAll, List.mem_map]
    constructor
    · rintro ⟨y, hy, rfl⟩
      obtain ⟨k, hk, rfl⟩ := List.mem_map.1 (hperm.mem_iff.1 hy)
      exact hk
    · intro hx
      exact ⟨x.data.toList, hperm.mem_iff.2 (List.mem_map.2 ⟨x, hx, rfl⟩), rfl⟩

theorem flat_S : ∀ xs : List ByteArray, (xs.map encS).flatten = xs.map encB
  | [] => rfl
  | x :: r => by simp only [List.map_cons, List.flatten_cons, flat_S r]; rfl
/-- an owned row of names reads as these -/
theorem SlS.ofRow {w : World} {base : Nat} {v : Value} {xs : List ByteArray} (h : w.ownsRow base 9 1 v xs.length (xs.map encB)) : SlS (fun b => base ≤ b) w v xs := by
  have hO : Own w base 9 1 v (xs.map encS) := by
    refine ⟨?_, fun cs hcs => ?_⟩
    · rw [flat_S]; simpa using h
    · obtain ⟨x, _, rfl⟩ := List.mem_map.1 hcs
      exact ⟨rfl, fun u hu => by simp [encS] at hu; subst hu; rfl⟩
  exact Sl.weak hO.sl fun b _ hb => hb.1

theorem sorts_ (m : Nat) : AnyZ.SortsIn Tryz.prog lay_sortedS_ren Fence.wide m :=
  ⟨fun blk off cap ss W hH hblk hsz => callsIn_wide.2 (AnyM.slices_Sort_string lay_sortS blk off cap ss W hH hblk hsz),
   fun p cap W => callsIn_wide.2 (AnyM.slices_Sort_string_none lay_sortS p cap W)⟩
theorem keys_ (mb : Option Nat) (W : World) : Calls Tryz.prog 264 #[.map mb] W fun e w' => e = .returned (.func (.func 296) #[] #[.pointer (some ⟨W.heap.size, 0, none⟩)]) ∧ w' = W.alloc (.cells #[.map mb] 203) :=
  callsIn_wide.1 (AnyZ.keys_in lay_keysS Fence.wide 5 trivial rfl mb W)

set_option maxHeartbeats 1000000 in
theorem sorted_keys_ {H : Type} (b nn : Nat) (D0 : DataW H) (R : Value → Option (DataW H × List MemPlace)) (w : World) (hown : w.ownsMap Tryz.prog 9 R b nn D0) (hmax : Maps.size D0 ≤ maxLen) (hbytes : Maps.size D0 * 16 ≤ 140737488355328) :
    Calls Tryz.prog 263 #[.func (.func 296) #[] #[.pointer (some ⟨w.heap.size, 0, none⟩)]] (w.alloc (.cells #[.map (some b)] 203)) fun e w' => ∃ (v : Value) (ss : List (List UInt8)), e = .returned v ∧ ss.Perm (Go.strKeys D0) ∧
      w'.ownsRow (w.alloc (.cells #[.map (some b)] 203)).heap.size 9 1 v ss.length ((ss.mergeSort (fun x y => decide (x ≤ y))).map encStr) ∧ (v = .slice none 0 0 ↔ ss = []) ∧ Below (w.alloc (.cells #[.map (some b)] 203)).heap.size (w.alloc (.cells #[.map (some b)] 203)) w' := by
  have hbl := hown.lt
  have hseq : SeqGives Fence.wide 2 Tryz.prog 296 #[.pointer (some ⟨w.heap.size, 0, none⟩)] encStr (fun ss => ss.Perm (Go.strKeys D0)) (Maps.size D0) (w.alloc (.cells #[.map (some b)] 203)) :=
    AnyZ.keys_gives (ρ := lay_keysS_ren) { lay_keysS with } Fence.wide _ trivial rfl (by omega) w.heap.size b nn D0 _ (by simp) (by simp) (by
      obtain ⟨es, clock, hb, Ft, hs, hD⟩ := hown
      exact ⟨es, clock, (Below.heap_alloc _ _ b hbl).trans hb, Ft, hs, hD⟩)
  exact callsIn_wide.1 (AnyZ.sorted_in lay_sortedS Fence.wide 5 trivial trivial trivial trivial rfl (by omega) (sorts_ _) (enters_of Tryz.func295 (by kernel_rfl) rfl) 296 #[.pointer (some ⟨w.heap.size, 0, none⟩)] trivial (enters_of Tryz.func296 (by kernel_rfl) rfl) _ _ hmax hbytes _ hseq)

theorem sortedMap_ (b : Nat) (kv : List (ByteArray × Value)) (w : World) (h : MapAt w encB b kv) (hs : ∀ x ∈ kv, x.1.size ≤ maxLen) (hn : kv.length ≤ 8000000000000) :
    Calls Tryz.prog 263 #[.func (.func 296) #[] #[.pointer (some ⟨w.heap.size, 0, none⟩)]] (w.alloc (.cells #[.map (some b)] 203)) fun e w' =>
      ∃ v, e = .returned v ∧ SlS (fun b => w.heap.size ≤ b) w' v (insAll (kv.map (·.1))) ∧ Ch [] w w' := by
  obtain ⟨D, hown, hperm, hsize⟩ := owns_of h hs (by unfold maxLen; omega)
  refine (sorted_keys_ b kv.length D _ w hown (by rw [hsize]; unfold maxLen; omega) (by rw [hsize]; omega)).mono ?_
  rintro e w' ⟨v, ss, rfl, hp, hrow, _, hB⟩
  refine ⟨v, rfl, ?_, ((Ch.refl [] w).alloc _).trans (Ch.of_below hB)⟩
  have hp2 : ss.Perm ((kv.map (·.1)).map fun x => x.data.toList) := by rw [List.map_map]; exact hp.trans hperm
  rw [← sorted_eq hp2 h.nodup]
  refine SlS.weak (SlS.ofRow (base := (w.alloc (.cells #[.map (some b)] 203)).heap.size) ?_) fun b _ hb => by simp at hb; omega
  rw [List.map_map, List.length_map]
  have : ss.length = (ss.mergeSort (fun x y => decide (x ≤ y))).length := by simp
  rw [← this]
  exact hrow

theorem ascending (b : Nat) (kv : List (ByteArray × Value)) (w : World) (h : MapAt w encB b kv) (hs : ∀ x ∈ kv, x.1.size ≤ maxLen) (hn : kv.length ≤ 8000000000000) :
    Calls Tryz.prog 212 #[.map (some b)] w fun r w' => ∃ v', r = .returned v' ∧ SlS (fun b => w.heap.size ≤ b) w' v' (insAll (kv.map (·.1))) ∧ Ch [] w w' := by
  go_enter Tryz.func212, Tryz.ntmps212
  go_wp2_with (first
    | (go_at_call 264; refine (keys_ _ _).mono ?_; rintro e w1 ⟨rfl, rfl⟩)
    | (go_at_call 263; refine (sortedMap_ b kv w h hs hn).mono ?_; rintro e w1 ⟨v1, rfl, hv, hc⟩))
  go_ret
  exact ⟨_, rfl, hv, hc⟩
end

section
open Go.RowKit Go.MapKept

/-- all names can be keys -/
def NmOk (l : List Ru) : Prop := ∀ r ∈ l, r.head.name.size ≤ maxLen ∧ ∀ x ∈ r.body, x.atom.name.size ≤ maxLen

/-- the keys of a set whose members are told by M -/
def SetOf {α : Type} (M : α → Prop) (kv : List (α × Value)) : Prop := (kv.map (·.1)).Nodup ∧ ∀ s, s ∈ kv.map (·.1) ↔ M s
theorem SetOf.add {α : Type} [DecidableEq α] {M M' : α → Prop} {kv : List (α × Value)} (h : SetOf M kv) (a : α) (v : Value) (hM : ∀ s, M' s ↔ s = a ∨ M s) : SetOf M' (aset kv a v) :=
  ⟨nodup_aset _ _ _ h.1, fun s => by rw [mem_aset, h.2, hM]⟩
theorem SetOf.del {α : Type} [DecidableEq α] {M : α → Prop} {kv : List (α × Value)} (h : SetOf M kv) (a : α) : SetOf (fun s => s ≠ a ∧ M s) (adel kv a) :=
  ⟨nodup_adel h.1, fun s => by rw [mem_adel _ h.1, h.2]⟩
theorem SetOf.iff {α : Type} {M M' : α → Prop} {kv : List (α × Value)} (h : SetOf M kv) (hM : ∀ s, M' s ↔ M s) : SetOf M' kv := ⟨h.1, fun s => by rw [h.2, hM]⟩
theorem SetOf.empty {α : Type} {M : α → Prop} (hM : ∀ s, ¬ M s) : SetOf M [] := ⟨List.nodup_nil, fun s => Iff.intro (fun h => (List.not_mem_nil h).elim) (fun h => absurd h (hM s))⟩

theorem take_ex {α : Type} {l : List α} {k : Nat} (h : k < l.length) {P : α → Prop} : (∃ r ∈ l.take (k + 1), P r) ↔ P l[k] ∨ ∃ r ∈ l.take k, P r := by
  rw [take_snoc l k h]
  constructor
  · rintro ⟨r, hr, hp⟩
    rcases List.mem_append.1 hr with h1 | h1
    · exact .inr ⟨r, h1, hp⟩
    · simp at h1; subst h1; exact .inl hp
  · rintro (hp | ⟨r, h1, hp⟩)
    · exact ⟨l[k], List.mem_append.2 (.inr (List.mem_singleton.2 rfl)), hp⟩
    · exact ⟨r, List.mem_append.2 (.inl h1), hp⟩
theorem set_heads {l : List Ru} {kv : List (ByteArray × Value)} (h : SetOf (fun s => ∃ r ∈ l, r.head.name = s) kv) : insAll ((adel kv dis).map (·.1)) = headsOf l :=
  asc_ext sLt_sto (asc_insAll _) (asc_headsOf _) fun s => by rw [mem_insAll, (h.del dis).2, mem_headsOf]
theorem set_rels {l : List Ru} {kv : List (ByteArray × Value)} (h : SetOf (fun s => ∃ r ∈ l, r.head.name = s ∨ ∃ x ∈ r.body, x.atom.name = s) kv) : insAll ((adel kv dis).map (·.1)) = relsOf l :=
  asc_ext sLt_sto (asc_insAll _) (asc_relsOf _) fun s => by rw [mem_insAll, (h.del dis).2, mem_relsOf]
theorem insAll_len (l : List ByteArray) (h : l.Nodup) : (insAll l).length = l.length :=
  Nat.le_antisymm ((asc_nodup sLt_sto (asc_insAll l)).length_le_of_subset fun x hx => (mem_insAll l x).1 hx) (h.length_le_of_subset fun x hx => (mem_insAll l x).2 hx)
theorem keys_in {kv : List (ByteArray × Value)} {P : ByteArray → Prop} (h : ∀ s ∈ kv.map (·.1), P s) : ∀ x ∈ kv, P x.1 := fun x hx => h _ (List.mem_map.2 ⟨x, hx, rfl⟩)

/-- the names of a rule -/
def RuN (r : Ru) (s : ByteArray) : Prop := r.head.name = s ∨ ∃ x ∈ r.body, x.atom.name = s
theorem rels_in {l : List Ru} (hnm : NmOk l) {r : Ru} (hr : r ∈ l) {s : ByteArray} (h : RuN r s) : s.size ≤ maxLen := by
  rcases h with rfl | ⟨x, hx, rfl⟩
  · exact (hnm r hr).1
  · exact (hnm r hr).2 x hx

set_option maxRecDepth 100000 in
set_option maxHeartbeats 1000000 in
theorem depRelations_ (p) (v : Value) (l : List Ru) (w : World) (h : SlR p w v l) (hf : (relsOf l).length ≤ 101000) (hnm : NmOk l) :
    Calls Tryz.prog 147 #[v] w fun r w' => ∃ v', r = .returned v' ∧ SlS (fun b => w.heap.size ≤ b) w' v' (relsOf l) ∧ Ch [] w w' := by
  obtain ⟨a, c, rfl, hlc, hm⟩ := h.form
  unfold maxLen at hm
  have HF := Lib.hid hf; clear hf
  have HN := Lib.hid hnm; clear hnm
  have hmm := @run_makeMap Tryz.prog
  go_enter Tryz.func147, Tryz.ntmps147
  go_wp2
  go_loopw [11] (fun i wr => ∃ (k : Nat) (kv : List (ByteArray × Value)), k ≤ l.length ∧ i = .int .i64 k ∧ Ch [] w wr ∧ MapAt wr encB w.heap.size kv ∧ Hid (SetOf (fun s => ∃ r ∈ l.take k, RuN r s) kv)) (fun i _ => l.length - (intOf i).toNat)
  case atStart => exact ⟨0, [], Nat.zero_le _, rfl, (Ch.refl _ _).alloc _, MapAt.new _ _, SetOf.empty (by simp)⟩
  case round =>
    obtain ⟨k, kv, hk, rfl, hB, hM, HS⟩ := hrel
    by_cases hlt : k < l.length
    · obtain ⟨b, o, a', c', a'', c'', rfl, hp, c0, c1, c2, hT, hL⟩ := h.at_ hlt
      have c0 := cell_ch c0 hB (by simp)
      have c1 := cell_ch c1 hB (by simp)
      have c2 := cell_ch c2 hB (by simp)
      have hs0 := hB.size
      have hml := hM.lt
      have HS2 := Lib.hid (HS.out.add l[k].head.name (.bool true) (M' := fun s => (∃ r ∈ l.take k, RuN r s) ∨ l[k].head.name = s ∨ ∃ x ∈ l[k].body.take 0, x.atom.name = s) (fun s => by simp only [List.take_zero, List.not_mem_nil, false_and, exists_false, or_false]; rw [eq_comm (a := s)]; exact Or.comm))
      go_wp2_with (first | (at_mapUpdate; refine wpl_upd rfl _ _ _ _ rfl kS mS rfl (b := w.heap.size) (kv := kv) (hM.alloc _) l[k].head.name rfl rfl ?_; intro w1 hm1 hc1 hs1; have d2 := ((Blk.new wr 87 #[.string l[k].head.name, .slice a' l[k].head.args.length c', .slice a'' l[k].body.length c'']).ch hc1 (by simp; omega)).cell 2))
      have hB1 : Ch [] w w1 := (hB.alloc _).step hc1 (by simp)
      obtain ⟨a3, c3, e3, _, hm3⟩ := hL.form
      injection e3 with e31 _ e32
      subst e31 e32
      unfold maxLen at hm3
      go_loopw [22] (fun i wq => ∃ (m : Nat) (kv : List (ByteArray × Value)), m ≤ l[k].body.length ∧ i = .int .i64 m ∧ Ch [] w wq ∧ MapAt wq encB w.heap.size kv ∧ Hid (SetOf (fun s => (∃ r ∈ l.take k, RuN r s) ∨ l[k].head.name = s ∨ ∃ x ∈ l[k].body.take m, x.atom.name = s) kv)) (fun i _ => l[k].body.length - (intOf i).toNat)
      case atStart => exact ⟨0, _, Nat.zero_le _, rfl, hB1, hm1, HS2⟩
      case round =>
        obtain ⟨m, kv', hmk, rfl, hB2, hM2, HS3⟩ := hrel
        by_cases hlt2 : m < l[k].body.length
        · obtain ⟨b2, o2, a2, c2', rfl, hp2, e0, e1, e2, hT2⟩ := hL.at_ hlt2
          have e0 := cell_ch e0 hB2 (by simp)
          have e1 := cell_ch e1 hB2 (by simp)
          have e2 := cell_ch e2 hB2 (by simp)
          have HS4 := Lib.hid (HS3.out.add l[k].body[m].atom.name (.bool true) (M' := fun s => (∃ r ∈ l.take k, RuN r s) ∨ l[k].head.name = s ∨ ∃ x ∈ l[k].body.take (m + 1), x.atom.name = s) (fun s => by rw [take_ex (P := fun x : Li => x.atom.name = s) hlt2, eq_comm (a := s)]; grind))
          go_wp2_with (first | (at_mapUpdate; refine wpl_upd rfl _ _ _ _ rfl kS mS rfl (b := w.heap.size) (kv := kv') (hM2.alloc _) l[k].body[m].atom.name rfl rfl ?_; intro w2 hm2 hc2 hs2))
          go_roundw
          case rel => exact ⟨m + 1, _, by omega, by go_num, (hB2.alloc _).step hc2 (by simp), hm2, HS4⟩
          case measure => simp [intOf]; omega
        · have : m = l[k].body.length := by omega
          subst this
          rw [List.take_length] at HS3
          have HS4 := Lib.hid (HS3.out.iff (M' := fun s => ∃ r ∈ l.take (k + 1), RuN r s) (fun s => by rw [take_ex (P := fun r : Ru => RuN r s) hlt]; unfold RuN; exact Or.comm))
          go_wp2
          go_roundw
          case rel => exact ⟨k + 1, _, by omega, by go_num, hB2, hM2, HS4⟩
          case measure => simp [intOf]; omega
    · have : k = l.length := by omega
      subst this
      rw [List.take_length] at HS
      have HX := Lib.hid (set_rels HS.out)
      have hd := Lib.hid (HS.out.del dis)
      have hk1 : ∀ x ∈ adel kv dis, x.1.size ≤ maxLen := keys_in (P := fun s => s.size ≤ maxLen) fun s hs => by obtain ⟨_, r, hr, hn⟩ := (hd.out.2 s).1 hs; exact rels_in HN.out hr hn
      have hk2 : (adel kv dis).length ≤ 8000000000000 := by
        have h1 := insAll_len _ hd.out.1
        rw [HX.out, List.length_map] at h1
        have := HF.out
        omega
      have HK1 := Lib.hid hk1; clear hk1
      go_wp2_with (first
        | (at_delete; refine wpl_del rfl _ _ _ _ rfl kS mS rfl (b := w.heap.size) (kv := kv) hM dis rfl ?_; intro w1 hm1 hc1 hs1)
        | (go_at_call 212; refine (ascending _ _ _ hm1 HK1.out hk2).mono ?_; rintro e w2 ⟨v2, rfl, hv2, hc2⟩))
      go_ret
      have hB1 : Ch [] w w1 := hB.step hc1 (by simp)
      have hs := hB1.size
      exact ⟨_, rfl, by rw [← HX.out]; exact hv2.weak (fun b _ hb => by omega), hB1.trans hc2⟩
theorem depRelations (p) (v : Value) (l : List Ru) (w : World) (h : SlR p w v l) (hf : Fit l) (hnm : NmOk l) :
    Calls Tryz.prog 147 #[v] w fun r w' => ∃ v', r = .returned v' ∧ SlS (fun b => w.heap.size ≤ b) w' v' (relsOf l) ∧ Ch [] w w' := depRelations_ p v l w h (relsOf_len hf) hnm
end
end Go.Proofs.YtlficnfkekggjaaGreatDoor
