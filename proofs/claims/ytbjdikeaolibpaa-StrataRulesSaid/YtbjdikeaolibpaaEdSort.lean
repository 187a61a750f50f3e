/-
  slices.SortedFunc at sets of edges, and depend.Edges.
-/
import Derived.Test.YtbjdikeaolibpaaEdSeq
import Derived.Test.YtbjdikeaolibpaaDeps
namespace Go.Proofs.Ytbjdikeaolibpaa
open Go.RowKit Go.Shelf Go.Sort
attribute [local go_sem] Oper.semAt_some

deriving instance Inhabited for Ed
theorem enc_len (x : Ed) : x.enc.length = 3 := rfl
theorem enc_one (x : Ed) : ∀ v ∈ x.enc, v.oneCell' = true := fun v hv => by simp [Ed.enc] at hv; rcases hv with rfl | rfl | rfl <;> rfl
theorem flatE_at (xs : List Ed) (j : Nat) (hj : j < xs.length * 3) : (flatE xs)[j]? = some ((Ed.enc xs.toArray[j / 3]!)[j % 3]!) := by
  have hd : j / 3 < xs.length := by omega
  have hm : j % 3 < 3 := Nat.mod_lt _ (by decide)
  have h1 : (xs.map Ed.enc)[j / 3]? = some (Ed.enc xs[j / 3]) := by rw [List.getElem?_map, List.getElem?_eq_getElem hd]; rfl
  have h2 : (Ed.enc xs[j / 3])[j % 3]? = some ((Ed.enc xs[j / 3])[j % 3]'(by rw [enc_len]; exact hm)) := List.getElem?_eq_getElem _
  have := flat_get (xs.map Ed.enc) 3 (fun c hc => by obtain ⟨x, _, rfl⟩ := List.mem_map.1 hc; rfl) (j / 3) _ (j % 3) _ h1 h2
  rw [show j / 3 * 3 + j % 3 = j from by omega] at this
  unfold flatE
  rw [this]
  have hx : xs.toArray[j / 3]! = xs[j / 3] := by simp [hd]
  rw [hx, getElem!_pos _ _ (by rw [enc_len]; exact hm)]
theorem holds_row {W : World} {base g cap n : Nat} {xs : List Ed} (h : W.ownsRow base 65 3 (.slice (some ⟨g, 0, none⟩) n cap) xs.length (flatE xs)) : HoldsK Ed.enc 3 W g 0 xs.toArray := by
  intro j hj
  have hj' : j < xs.length * 3 := by simpa using hj
  have hg : ∃ cs, W.heap[g]? = some (.cells cs 65 (0, 0)) := by
    rcases h.2 with ⟨h0, _⟩ | ⟨g', c', cur, e, _, hb, _⟩
    · cases h0
    · cases e; exact ⟨_, hb⟩
  obtain ⟨cs, hb⟩ := hg
  refine ⟨?_, by simp [World.frozen?, hb]⟩
  have h1 := h.cells (g := g) rfl j _ (flatE_at xs j hj')
  rw [add_off] at h1
  rw [get_flatK _ _ _ _ (by simpa using hj')]
  exact h1
theorem sort_ch {W : World} {g n : Nat} {os : Array Obj} (d : Array Ed) : Ch [g] W (sortWorldK Ed.enc 3 W g 0 n d os) := by
  refine ⟨rfl, rfl, rfl, by simp [sortWorldK, putRowK], fun k hk hne => ?_⟩
  unfold sortWorldK putRowK
  rw [heap_grow_old _ _ (by simpa using hk)]
  have : g ≠ k := fun e => hne (by rw [e]; simp)
  simp [putRow, mapBlock, Sort.ahead, Array.getElem?_modify, this]
theorem sorted_sl {W : World} {base g cap n m : Nat} {os : Array Obj} {xs ys : List Ed} (hl : ys.length = xs.length) (h : W.ownsRow base 65 3 (.slice (some ⟨g, 0, none⟩) m cap) xs.length (flatE xs)) :
    SlE (fun b => base ≤ b) (sortWorldK Ed.enc 3 W g 0 n ys.toArray os) (.slice (some ⟨g, 0, none⟩) xs.length cap) ys := by
  have hH := holds_row h
  obtain ⟨hbase, hlen, hcap, hg⟩ : base ≤ g ∧ xs.length ≤ cap ∧ cap ≤ maxLen ∧ g < W.heap.size := by
    rcases h.2 with ⟨h0, _⟩ | ⟨g', c', cur, e, hb, hbk, h1, h2, _⟩
    · cases h0
    · cases e; exact ⟨hb, h1, h2, lt_of_heap hbk⟩
  have hP := holds_putRow id (Sort.ahead W n) g 0 (flatK Ed.enc 3 xs.toArray) (flatK Ed.enc 3 ys.toArray) (holds_ahead _ _ _ _ _ _ hH) (by simp [hl])
  refine ⟨_, cap, by rw [List.length_map, hl], by rw [List.length_map, hl]; exact hlen, hcap, fun i cs hi => ?_⟩
  rw [List.getElem?_map, Option.map_eq_some_iff] at hi
  obtain ⟨y, hy, rfl⟩ := hi
  obtain ⟨hilt, hy'⟩ := List.getElem?_eq_some_iff.1 hy
  refine ⟨⟨rfl, enc_one y⟩, g, 0, rfl, ⟨hbase, ?_⟩, fun j u hu => ?_⟩
  · have := (sort_ch (W := W) (g := g) (n := n) (os := os) ys.toArray).size
    omega
  · have hj : j < 3 := by have := (List.getElem?_eq_some_iff.1 hu).1; rw [enc_len] at this; exact this
    have hjj : i * 3 + j < (flatK Ed.enc 3 ys.toArray).size := by simp; omega
    unfold sortWorldK
    rw [cell?_grow _ _ _ (by simpa [putRowK] using hg)]
    have := (hP (i * 3 + j) hjj).1
    unfold putRowK
    rw [this, get_flatK _ _ _ _ (by simpa using hjj)]
    rw [show (i * 3 + j) / 3 = i from by omega, show (i * 3 + j) % 3 = j from by omega]
    have hx : ys.toArray[i]! = y := by simp [hilt, hy']
    rw [hx]
    obtain ⟨h3, h4⟩ := List.getElem?_eq_some_iff.1 hu
    show some (y.enc[j]!) = some u
    rw [getElem!_pos y.enc j h3, h4]

def sortEd (xs : List Ed) : List Ed := xs.mergeSort fun x y => !(ltOf edCmp) y x
theorem sortEd_len (xs : List Ed) : (sortEd xs).length = xs.length := by simp [sortEd]

theorem sortFuncE (base g cap m : Nat) (xs : List Ed) (W : World) (hm : xs.length ≤ 1000000000) (h : W.ownsRow base 65 3 (.slice (some ⟨g, 0, none⟩) m cap) xs.length (flatE xs)) :
    Calls Try.prog 85 #[.slice (some ⟨g, 0, none⟩) xs.length cap, .func (.func 68) #[] #[]] W fun e w' => e = .returned (.tuple #[]) ∧ Ch [g] W w' ∧ SlE (fun b => base ≤ b) w' (.slice (some ⟨g, 0, none⟩) xs.length cap) (sortEd xs) := by
  have hg : g < W.heap.size := (h.lt g rfl).2
  have eg : ∀ args w, (callFunc 68 args).run Try.prog w = .ok (.enter 68 args) w := enters_of Try.func68 (by kernel_rfl) rfl
  have hcmp : CmpLays Try.prog 68 #[] Ed.enc 3 edCmp g 0 xs.toArray.size W := fun _ _ _ _ x y => compareEdges_ x y _
  have hcon := AnyQ.slices_SortFunc_total lay_sortFuncE 3 Try.isAgg65 Try.sizeOf65 Ed.enc enc_len enc_one edCmp swoEd 68 #[] g 0 cap xs.toArray W eg hcmp (holds_row h) hg (by simp; omega) totEd
  change Calls Try.prog 85 _ _ _ at hcon
  rw [List.size_toArray] at hcon
  refine hcon.mono ?_
  rintro e w' ⟨rfl, n, os, rfl⟩
  exact ⟨rfl, sort_ch _, sorted_sl (sortEd_len xs) h⟩

theorem sortEd_eq {ks xs : List Ed} (hp : xs.Perm ks) (hn : ks.Nodup) : Asc edLess (sortEd xs) ∧ ∀ e, e ∈ sortEd xs ↔ e ∈ ks := by
  have hperm : (sortEd xs).Perm ks := (List.mergeSort_perm xs _).trans hp
  have tr : ∀ a b c : Ed, (!(ltOf edCmp) b a) = true → (!(ltOf edCmp) c b) = true → (!(ltOf edCmp) c a) = true := by
    intro a b c h1 h2
    simp only [Bool.not_eq_true', lt_edCmp] at *
    cases h3 : edLess c a with
    | false => rfl
    | true =>
      cases h4 : edLess a b with
      | true => exact absurd (edLess_sto.trans c a b h3 h4) (by rw [h2]; simp)
      | false =>
        have := edLess_sto.total a b h4 h1
        subst this; rw [h2] at h3; cases h3
  have to : ∀ a b : Ed, ((!(ltOf edCmp) b a) || (!(ltOf edCmp) a b)) = true := by
    intro a b
    simp only [lt_edCmp]
    cases h3 : edLess b a with
    | false => rfl
    | true =>
      cases h4 : edLess a b with
      | false => rfl
      | true => exact absurd (edLess_sto.trans a b a h4 h3) (by rw [edLess_sto.irr]; simp)
  have hpw := List.pairwise_mergeSort tr to xs
  have hnd : (sortEd xs).Nodup := hperm.nodup_iff.2 hn
  refine ⟨(hpw.and hnd).imp fun {a b} hab => ?_, fun e => hperm.mem_iff⟩
  obtain ⟨h1, h2⟩ := hab
  simp only [Bool.not_eq_true', lt_edCmp] at h1
  cases h3 : edLess a b with
  | true => rfl
  | false => exact absurd (edLess_sto.total a b h3 h1) h2

theorem keysE_ (mb : Option Nat) (w : World) : Calls Try.prog 67 #[.map mb] w fun e w' => e = .returned (.func (.func 86) #[] #[.pointer (some ⟨w.heap.size, 0, none⟩)]) ∧ w' = w.alloc (.cells #[.map mb] 87) := by
  go_enter Try.func67, Try.ntmps67
  go_wp2
  go_ret
  exact ⟨rfl, rfl⟩

set_option maxHeartbeats 1000000 in
theorem collectE (b : Nat) (kv : List (Ed × Value)) (w : World) (h : MapAt w encE b kv) (hn : kv.length ≤ 1000000000) :
    Calls Try.prog 84 #[.func (.func 86) #[] #[.pointer (some ⟨w.heap.size, 0, none⟩)]] (w.alloc (.cells #[.map (some b)] 87)) fun e w' =>
      ∃ v xs, e = .returned v ∧ xs.Perm (kv.map (·.1)) ∧ w'.ownsRow (w.heap.size + 1) 65 3 v xs.length (flatE xs) ∧ Ch [] w w' := by
  have hk := keysE_stops 2 (by omega) w.heap.size b kv (w.alloc (.cells #[.map (some b)] 87)) (by simp) ((Blk.new w 87 #[.map (some b)]).cell 0) (h.alloc _)
  have eg : ∀ args w, (callFunc 86 args).run Try.prog w = .ok (.enter 86 args) w := enters_of Try.func86 (by kernel_rfl) rfl
  have hcon := callsIn_wide.1 (appendSeqE 3 (by omega) _ _ eg _ _ _ hn _ hk)
  rw [World.size_alloc] at hcon
  have hB0 : Ch [] w (w.alloc (.cells #[.map (some b)] 87)) := (Ch.refl [] w).alloc _
  clear hk eg
  go_enter Try.func84, Try.ntmps84
  go_wp2_with (go_at_call 101; refine hcon.mono ?_; rintro e w' ⟨v, xs, rfl, hp, hrow, hB⟩)
  go_ret
  exact ⟨v, xs, rfl, hp, hrow, hB0.trans ⟨hB.os, hB.tape, hB.output, by have := hB.size; simpa using this, fun k hk _ => hB.block k (by simpa using hk)⟩⟩

theorem sortAnyE (base : Nat) (v : Value) (xs : List Ed) (W : World) (hm : xs.length ≤ 1000000000) (h : W.ownsRow base 65 3 v xs.length (flatE xs)) :
    Calls Try.prog 85 #[v, .func (.func 68) #[] #[]] W fun e w' => e = .returned (.tuple #[]) ∧ Ch v.ownBlock.toList W w' ∧ SlE (fun b => base ≤ b) w' v (sortEd xs) := by
  rcases h.2 with ⟨rfl, h0⟩ | ⟨g, cap, cur, rfl, _⟩
  · have hx : xs = [] := List.eq_nil_of_length_eq_zero h0
    subst hx
    have := AnyF.slices_SortFunc_none (P := Try.prog) { lay_sortFuncE with } none 0 (.func (.func 68) #[] #[]) W
    refine Calls.mono (P := Try.prog) this ?_
    rintro e w' ⟨rfl, rfl⟩
    exact ⟨rfl, Ch.refl _ _, by rw [show sortEd [] = [] from by simp [sortEd]]; exact Sl.nil _ _ _⟩
  · exact sortFuncE base g cap _ xs W hm h

set_option maxHeartbeats 1000000 in
theorem sortedFuncE (b : Nat) (kv : List (Ed × Value)) (w : World) (h : MapAt w encE b kv) (hn : kv.length ≤ 1000000000) :
    Calls Try.prog 66 #[.func (.func 86) #[] #[.pointer (some ⟨w.heap.size, 0, none⟩)], .func (.func 68) #[] #[]] (w.alloc (.cells #[.map (some b)] 87)) fun e w' =>
      ∃ v es, e = .returned v ∧ SlE (fun b => w.heap.size ≤ b) w' v es ∧ Ch [] w w' ∧ Asc edLess es ∧ ∀ x, x ∈ es ↔ x ∈ kv.map (·.1) := by
  have hnd := Lib.hid h.nodup
  have hcol := collectE b kv w h hn
  clear h
  go_enter Try.func66, Try.ntmps66
  go_wp2_with (first
    | (go_at_call 84; refine hcol.mono ?_; rintro e w1 ⟨v1, xs, rfl, hp, hrow, hB⟩)
    | (go_at_call 85; refine (sortAnyE (w.heap.size + 1) v1 xs w1 (by have := hp.length_eq; rw [List.length_map] at this; omega) hrow).mono ?_; rintro e w2 ⟨rfl, hc, hsl⟩))
  go_ret
  obtain ⟨h1, h2⟩ := sortEd_eq hp hnd.out
  refine ⟨_, _, rfl, hsl.weak (fun b _ hb => by omega), hB.step hc ?_, h1, h2⟩
  intro x hx
  right
  cases ho : v1.ownBlock with
  | none => rw [ho] at hx; cases hx
  | some g =>
    rw [ho] at hx
    have := (hrow.lt g ho).1
    simp at hx; omega

/-- an edge of a rule -/
def RuE (r : Ru) (e : Ed) : Prop := r.head.name ≠ dis ∧ ∃ x ∈ r.body, x.atom.name ≠ dis ∧ e = edOf r.head.name x
theorem set_edges {l : List Ru} {kv : List (Ed × Value)} (h : SetOf (fun e => ∃ r ∈ l, RuE r e) kv) {es : List Ed} (h1 : Asc edLess es) (h2 : ∀ x, x ∈ es ↔ x ∈ kv.map (·.1)) : es = edgesOf l :=
  asc_ext edLess_sto h1 (asc_edgesOf _) fun e => by rw [h2, h.2, mem_edgesOf]; rfl

set_option maxRecDepth 100000 in
set_option maxHeartbeats 2000000 in
theorem depEdges (p) (v : Value) (l : List Ru) (w : World) (h : SlR p w v l) (hf : Fit l) :
    Calls Try.prog 42 #[v] w fun r w' => ∃ v', r = .returned v' ∧ SlE (fun b => w.heap.size ≤ b) w' v' (edgesOf l) ∧ Ch [] w w' := by
  obtain ⟨a, c, rfl, hlc, hm⟩ := h.form
  unfold maxLen at hm
  have HF := Lib.hid hf; clear hf
  have hmm := @run_makeMap Try.prog
  go_enter Try.func42, Try.ntmps42
  go_wp2
  go_loopw [11] (fun i wr => ∃ (k : Nat) (kv : List (Ed × Value)), k ≤ l.length ∧ i = .int .i64 k ∧ Ch [] w wr ∧ MapAt wr encE w.heap.size kv ∧ Hid (SetOf (fun e => ∃ r ∈ l.take k, RuE r e) kv)) (fun i _ => l.length - (intOf i).toNat)
  case atStart => exact ⟨0, [], Nat.zero_le _, rfl, (Ch.refl _ _).alloc _, MapAt.new _ _, SetOf.empty (by simp)⟩
  case round =>
    obtain ⟨k, kv, hk, rfl, hB, hM, HS⟩ := hrel
    by_cases hlt : k < l.length
    · obtain ⟨b, o, a', c', a'', c'', rfl, hp, c0, c1, c2, hT, hL⟩ := h.at_ hlt
      have c0 := cell_ch c0 hB (by simp)
      have c1 := cell_ch c1 hB (by simp)
      have c2 := cell_ch c2 hB (by simp)
      have hml := hM.lt
      have HT := Lib.hid (fun e => take_ex (k := k) hlt (P := fun r : Ru => RuE r e))
      have hbox := Blk.new wr 55 #[.string l[k].head.name, .slice a' l[k].head.args.length c', .slice a'' l[k].body.length c'']
      have d2 := hbox.cell 2
      obtain ⟨wo, rfl⟩ : ∃ wo : World, wo = wr := ⟨_, rfl⟩
      obtain ⟨a3, c3, e3, _, hm3⟩ := hL.form
      injection e3 with e31 _ e32
      subst e31 e32
      unfold maxLen at hm3
      go_wp2
      · have hd : (l[k].head.name.toList == [100, 105, 115, 116, 105, 110, 99, 116]) = true := by assumption
        rw [dis_eq, decide_eq_true_eq] at hd
        go_roundw
        case rel => exact ⟨k + 1, kv, by omega, by go_num, hB.alloc _, hM.alloc _, HS.out.iff (fun e => by rw [HT.out e]; exact ⟨fun h => h.elim (fun h1 => absurd hd h1.1) id, .inr⟩)⟩
        case measure => simp [intOf]; omega
      · have hd : (l[k].head.name.toList == [100, 105, 115, 116, 105, 110, 99, 116]) = false := by assumption
        rw [dis_eq, decide_eq_false_iff_not] at hd
        go_loopw [22] (fun i wq => ∃ (m : Nat) (kv : List (Ed × Value)), m ≤ l[k].body.length ∧ i = .int .i64 m ∧ Ch [] w wq ∧ Blk wq wo.heap.size 55 #[.string l[k].head.name, .slice a' l[k].head.args.length c', .slice a'' l[k].body.length c''] ∧ MapAt wq encE w.heap.size kv ∧
            Hid (SetOf (fun e => (∃ r ∈ l.take k, RuE r e) ∨ ∃ x ∈ l[k].body.take m, x.atom.name ≠ dis ∧ e = edOf l[k].head.name x) kv)) (fun i _ => l[k].body.length - (intOf i).toNat)
        case atStart => exact ⟨0, kv, Nat.zero_le _, rfl, hB.alloc _, hbox, hM.alloc _, HS.out.iff (fun e => by simp)⟩
        case round =>
          obtain ⟨m, kv', hmk, rfl, hB2, hbox2, hM2, HS3⟩ := hrel
          by_cases hlt2 : m < l[k].body.length
          · obtain ⟨b2, o2, a2, c2', rfl, hp2, e0, e1, e2, hT2⟩ := hL.at_ hlt2
            have e0 := cell_ch e0 hB2 (by simp)
            have e1 := cell_ch e1 hB2 (by simp)
            have e2 := cell_ch e2 hB2 (by simp)
            have f0 := (hbox2.alloc (.cells #[.bool l[k].body[m].nt, .string l[k].body[m].atom.name, .slice a2 l[k].body[m].atom.args.length c2'] 57)).cell 0
            have HT2 := Lib.hid (fun e => take_ex (k := m) hlt2 (P := fun x : Li => x.atom.name ≠ dis ∧ e = edOf l[k].head.name x))
            go_wp2_with (first | (at_mapUpdate; refine wpl_upd rfl _ _ _ _ rfl edKeys mE rfl (b := w.heap.size) (kv := kv') (hM2.alloc _) (edOf l[k].head.name l[k].body[m]) rfl rfl ?_; intro w2 hm2 hc2 hs2))
            · have hd2 : (!l[k].body[m].atom.name.toList == [100, 105, 115, 116, 105, 110, 99, 116]) = true := by assumption
              rw [dis_eq] at hd2
              have hd2 : l[k].body[m].atom.name ≠ dis := by simpa using hd2
              go_roundw
              case rel => exact ⟨m + 1, _, by omega, by go_num, (hB2.alloc _).step hc2 (by simp), (hbox2.alloc _).ch hc2 (by simp; omega), hm2, HS3.out.add _ _ (fun e => by rw [HT2.out e]; grind)⟩
              case measure => simp [intOf]; omega
            · have hd2 : (!l[k].body[m].atom.name.toList == [100, 105, 115, 116, 105, 110, 99, 116]) = false := by assumption
              rw [dis_eq] at hd2
              have hd2 : l[k].body[m].atom.name = dis := by simpa using hd2
              go_roundw
              case rel => exact ⟨m + 1, kv', by omega, by go_num, hB2.alloc _, hbox2.alloc _, hM2.alloc _, HS3.out.iff (fun e => by rw [HT2.out e]; grind)⟩
              case measure => simp [intOf]; omega
          · have : m = l[k].body.length := by omega
            subst this
            rw [List.take_length] at HS3
            go_wp2
            go_roundw
            case rel => exact ⟨k + 1, kv', by omega, by go_num, hB2, hM2, HS3.out.iff (fun e => by rw [HT.out e]; exact ⟨fun h => h.elim (fun h1 => .inr h1.2) .inl, fun h => h.elim .inr (fun h1 => .inl ⟨hd, h1⟩)⟩)⟩
            case measure => simp [intOf]; omega
    · have : k = l.length := by omega
      subst this
      rw [List.take_length] at HS
      have hn : kv.length ≤ 1000000000 := by
        have h1 := hM.nodup
        have h2 : (kv.map (·.1)).length ≤ (edgesOf l).length := List.Nodup.length_le_of_subset h1 fun e he => by rw [mem_edgesOf]; exact (HS.out.2 e).1 he
        have h3 := edgesOf_len HF.out l.length
        rw [List.take_length] at h3
        rw [List.length_map] at h2
        omega
      have hsorted := sortedFuncE w.heap.size kv wr hM hn
      have HX := Lib.hid (fun es h1 h2 => set_edges (es := es) HS.out h1 h2)
      go_wp2_with (first
        | (go_at_call 67; refine (keysE_ _ _).mono ?_; rintro e w1 ⟨rfl, rfl⟩)
        | (go_at_call 66; refine hsorted.mono ?_; rintro e w2 ⟨v2, es, rfl, hv2, hc2, h1, h2⟩))
      go_ret
      have hs := hB.size
      exact ⟨_, rfl, by rw [← HX.out es h1 h2]; exact hv2.weak (fun b _ hb => by omega), hB.trans hc2⟩
end Go.Proofs.Ytbjdikeaolibpaa
