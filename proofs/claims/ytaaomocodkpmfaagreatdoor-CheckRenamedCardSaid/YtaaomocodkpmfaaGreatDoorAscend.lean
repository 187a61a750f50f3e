
/-
  The contract of depend.ascending: the names of a set, ascending.
-/
import Derived.Test.YtaaomocodkpmfaaGreatDoorMaps
import Derived.Test.YtaaomocodkpmfaaGreatDoorOrder
import Derived.Test.YtaaomocodkpmfaaGreatDoorLays
import Derived.Test.YtaaomocodkpmfaaGreatDoorStep
namespace Go.Proofs.YtaaomocodkpmfaaGreatDoor
open Go.RowKit Go.MapKept Go.Maps Go.Sort Go.Shelf

def toBs (xs : List UInt8) : ByteArray := ⟨xs.toArray⟩
theorem toBs_data (s : ByteArray) : toBs s.data.toList = s := rfl
theorem toList_bs (s : ByteArray) : s.toList = s.data.toList := ByteArray.toList_eq _

theorem owns_of {w : World} {b : Nat} {kv : List (ByteArray × Value)} (h : MapAt w encB b kv) (hs : ∀ x ∈ kv, x.1.size ≤ maxLen) (hn : kv.length ≤ maxLen) :
    ∃ D : DataW Nat, w.ownsMap Tryz.prog 9 (fun _ => some (.nil, [])) b kv.length D ∧ (Go.strKeys D).Perm (kv.map fun x => x.1.data.toList) ∧ Maps.size D = kv.length := by
  obtain ⟨es, clock, hb, hk, hv, hnd, hbo, hbn⟩ := h
  have hlen : es.toList.length = kv.length := by simpa using congrArg List.length hk
  have hrd : ∀ x ∈ es.toList, ∃ s : ByteArray, x.key = .string s ∧ s.size ≤ maxLen ∧ Go.WideElems.rd Tryz.prog 9 (fun _ => some ((.nil : DataW Nat), [])) x = some (.string s.data.toList, .nil) := by
    intro x hx
    obtain ⟨j, hj⟩ := List.mem_iff_getElem?.1 hx
    obtain ⟨y, hy, hkey⟩ := ent_of hk hj
    refine ⟨y.1, hkey, hs y (List.mem_of_getElem? hy), ?_⟩
    have hsz := hs y (List.mem_of_getElem? hy)
    simp only [encB] at hkey
    simp [Go.WideElems.rd, hkey, keyOf, mapKey, Tryz.underlying9, hsz]
  refine ⟨.map ((es.toList.map (Go.WideElems.rg Tryz.prog 9 (fun _ => some (.nil, [])))).foldr DataW.insert []), ⟨es, clock, hb, ⟨?_, ?_, ?_⟩, ?_, rfl⟩, ?_, ?_⟩
  · rw [← hlen] at hn; simpa using hn
  · refine ⟨hbo, hbn, ?_⟩
    rw [hk]
    have : (kv.map fun x => encB x.1) = (kv.map (·.1)).map encB := by rw [List.map_map]; rfl
    rw [this]
    exact List.pairwise_map.2 (hnd.imp fun {a b} hab e => hab (by simpa [encB] using e))
  · intro x hx; obtain ⟨s, _, _, h⟩ := hrd x hx; exact ⟨_, h⟩
  · have : es.size = es.toList.length := by simp
    omega
  · refine ((Go.WideShapes.sorted_perm _).map _).trans ?_
    rw [List.map_map]
    refine List.Perm.of_eq ?_
    have h1 : es.toList.map ((fun p : Lit × DataW Nat => strOf p.1) ∘ Go.WideElems.rg Tryz.prog 9 (fun _ => some (.nil, []))) = es.toList.map (fun x => match x.key with | .string s => s.data.toList | _ => []) := by
      refine List.map_congr_left fun x hx => ?_
      obtain ⟨s, hs1, _, h⟩ := hrd x hx
      simp [Go.WideElems.rg, h, hs1, strOf]
    rw [h1]
    have h2 : es.toList.map (fun x => match x.key with | .string s => s.data.toList | _ => []) = (es.toList.map (·.key)).map (fun v => match v with | .string s => s.data.toList | _ => []) := by rw [List.map_map]; rfl
    rw [h2, hk, List.map_map]; rfl
  · show List.length _ = _
    rw [(Go.WideShapes.sorted_perm _).length_eq, List.length_map, hlen]

/-- a permutation of a set's names, sorted as bytes, is the ascending list of the names -/
theorem sorted_eq {ss : List (List UInt8)} {ks : List ByteArray} (hp : ss.Perm (ks.map fun x => x.data.toList)) (hn : ks.Nodup) : (ss.mergeSort (fun x y => decide (x ≤ y))).map toBs = insAll ks := by
  have tr : ∀ a b c : List UInt8, decide (a ≤ b) = true → decide (b ≤ c) = true → decide (a ≤ c) = true := fun a b c h1 h2 => by simp only [decide_eq_true_eq] at *; exact List.le_trans h1 h2
  have to : ∀ a b : List UInt8, (decide (a ≤ b) || decide (b ≤ a)) = true := fun a b => by simp only [Bool.or_eq_true, decide_eq_true_eq]; exact List.le_total a b
  have hperm : (ss.mergeSort (fun x y => decide (x ≤ y))).Perm (ks.map fun x => x.data.toList) := (List.mergeSort_perm ss _).trans hp
  have hpw := List.pairwise_mergeSort tr to ss
  have hinj : ∀ a b : ByteArray, a.data.toList = b.data.toList → a = b := fun a b h => ByteArray.ext (Array.toList_inj.1 h)
  have hnd : (ss.mergeSort (fun x y => decide (x ≤ y))).Nodup := by
    refine hperm.nodup_iff.2 (List.pairwise_map.2 (hn.imp fun {a b} hab e => hab (hinj a b e)))
  refine asc_ext sLt_sto ?_ (asc_insAll _) fun x => ?_
  · refine List.pairwise_map.2 ((hpw.and hnd).imp fun {a b} hab => ?_)
    obtain ⟨h1, h2⟩ := hab
    simp only [decide_eq_true_eq] at h1
    show Op.bytesLess (toBs a).toList (toBs b).toList = true
    rw [toList_bs, toList_bs, bytesLess_eq]
    show decide (a < b) = true
    rw [decide_eq_true_eq]
    exact Classical.byContradiction fun h => h2 (List.le_antisymm h1 (List.not_lt.1 h))
  · rw [mem_insAll, List.mem_map]
    constructor
    · rintro ⟨y, hy, rfl⟩
      obtain ⟨k, hk, rfl⟩ := List.mem_map.1 (hperm.mem_iff.1 hy)
      exact hk
    · intro hx
      exact ⟨x.data.toList, hperm.mem_iff.2 (List.mem_map.2 ⟨x, hx, rfl⟩), rfl⟩

theorem flat_S : ∀ xs : List ByteArray, (xs.map encS).flatten = xs.map encB
  | [] => rfl
  | x :: r => by simp only [List.map_cons, List.flatten_cons, flat_S r]; rfl
/-- an owned row of names reads as these -/
theorem SlS.ofRow {w : World} {base : Nat} {v : Value} {xs : List ByteArray} (h : w.ownsRow base 9 1 v xs.length (xs.map encB)) : SlS (fun b => base ≤ b) w v xs := by
  have hO : Own w base 9 1 v (xs.map encS) := by
    refine ⟨?_, fun cs hcs => ?_⟩
    · rw [flat_S]; simpa using h
    · obtain ⟨x, _, rfl⟩ := List.mem_map.1 hcs
      exact ⟨rfl, fun u hu => by simp [encS] at hu; subst hu; rfl⟩
  exact Sl.weak hO.sl fun b _ hb => hb.1

theorem sorts_ (m : Nat) : AnyZ.SortsIn Tryz.prog lay_sortedS_ren Fence.wide m :=
  ⟨fun blk off cap ss W hH hblk hsz => callsIn_wide.2 (AnyM.slices_Sort_string lay_sortS blk off cap ss W hH hblk hsz),
   fun p cap W => callsIn_wide.2 (AnyM.slices_Sort_string_none lay_sortS p cap W)⟩
theorem keys_ (mb : Option Nat) (W : World) : Calls Tryz.prog 130 #[.map mb] W fun e w' => e = .returned (.func (.func 146) #[] #[.pointer (some ⟨W.heap.size, 0, none⟩)]) ∧ w' = W.alloc (.cells #[.map mb] 160) :=
  callsIn_wide.1 (AnyZ.keys_in lay_keysS Fence.wide 5 trivial rfl mb W)

set_option maxHeartbeats 1000000 in
theorem sorted_keys_ {H : Type} (b nn : Nat) (D0 : DataW H) (R : Value → Option (DataW H × List MemPlace)) (w : World) (hown : w.ownsMap Tryz.prog 9 R b nn D0) (hmax : Maps.size D0 ≤ maxLen) (hbytes : Maps.size D0 * 16 ≤ 140737488355328) :
    Calls Tryz.prog 129 #[.func (.func 146) #[] #[.pointer (some ⟨w.heap.size, 0, none⟩)]] (w.alloc (.cells #[.map (some b)] 160)) fun e w' => ∃ (v : Value) (ss : List (List UInt8)), e = .returned v ∧ ss.Perm (Go.strKeys D0) ∧
      w'.ownsRow (w.alloc (.cells #[.map (some b)] 160)).heap.size 9 1 v ss.length ((ss.mergeSort (fun x y => decide (x ≤ y))).map encStr) ∧ (v = .slice none 0 0 ↔ ss = []) ∧ Below (w.alloc (.cells #[.map (some b)] 160)).heap.size (w.alloc (.cells #[.map (some b)] 160)) w' := by
  have hbl := hown.lt
  have hseq : SeqGives Fence.wide 2 Tryz.prog 146 #[.pointer (some ⟨w.heap.size, 0, none⟩)] encStr (fun ss => ss.Perm (Go.strKeys D0)) (Maps.size D0) (w.alloc (.cells #[.map (some b)] 160)) :=
    AnyZ.keys_gives (ρ := lay_keysS_ren) { lay_keysS with } Fence.wide _ trivial rfl (by omega) w.heap.size b nn D0 _ (by simp) (by simp) (by
      obtain ⟨es, clock, hb, Ft, hs, hD⟩ := hown
      exact ⟨es, clock, (Below.heap_alloc _ _ b hbl).trans hb, Ft, hs, hD⟩)
  exact callsIn_wide.1 (AnyZ.sorted_in lay_sortedS Fence.wide 5 trivial trivial trivial trivial rfl (by omega) (sorts_ _) (enters_of Tryz.func145 (by kernel_rfl) rfl) 146 #[.pointer (some ⟨w.heap.size, 0, none⟩)] trivial (enters_of Tryz.func146 (by kernel_rfl) rfl) _ _ hmax hbytes _ hseq)

theorem sortedMap_ (b : Nat) (kv : List (ByteArray × Value)) (w : World) (h : MapAt w encB b kv) (hs : ∀ x ∈ kv, x.1.size ≤ maxLen) (hn : kv.length ≤ 8000000000000) :
    Calls Tryz.prog 129 #[.func (.func 146) #[] #[.pointer (some ⟨w.heap.size, 0, none⟩)]] (w.alloc (.cells #[.map (some b)] 160)) fun e w' =>
      ∃ v, e = .returned v ∧ SlS (fun b => w.heap.size ≤ b) w' v (insAll (kv.map (·.1))) ∧ Ch [] w w' := by
  obtain ⟨D, hown, hperm, hsize⟩ := owns_of h hs (by unfold maxLen; omega)
  refine (sorted_keys_ b kv.length D _ w hown (by rw [hsize]; unfold maxLen; omega) (by rw [hsize]; omega)).mono ?_
  rintro e w' ⟨v, ss, rfl, hp, hrow, _, hB⟩
  refine ⟨v, rfl, ?_, ((Ch.refl [] w).alloc _).trans (Ch.of_below hB)⟩
  have hp2 : ss.Perm ((kv.map (·.1)).map fun x => x.data.toList) := by rw [List.map_map]; exact hp.trans hperm
  rw [← sorted_eq hp2 h.nodup]
  refine SlS.weak (SlS.ofRow (base := (w.alloc (.cells #[.map (some b)] 160)).heap.size) ?_) fun b _ hb => by simp at hb; omega
  rw [List.map_map, List.length_map]
  have : ss.length = (ss.mergeSort (fun x y => decide (x ≤ y))).length := by simp
  rw [← this]
  exact hrow

theorem ascending (b : Nat) (kv : List (ByteArray × Value)) (w : World) (h : MapAt w encB b kv) (hs : ∀ x ∈ kv, x.1.size ≤ maxLen) (hn : kv.length ≤ 8000000000000) :
    Calls Tryz.prog 103 #[.map (some b)] w fun r w' => ∃ v', r = .returned v' ∧ SlS (fun b => w.heap.size ≤ b) w' v' (insAll (kv.map (·.1))) ∧ Ch [] w w' := by
  go_enter Tryz.func103, Tryz.ntmps103
  go_wp2_with (first
    | (go_at_call 130; refine (keys_ _ _).mono ?_; rintro e w1 ⟨rfl, rfl⟩)
    | (go_at_call 129; refine (sortedMap_ b kv w h hs hn).mono ?_; rintro e w1 ⟨v1, rfl, hv, hc⟩))
  go_ret
  exact ⟨_, rfl, hv, hc⟩
end Go.Proofs.YtaaomocodkpmfaaGreatDoor
