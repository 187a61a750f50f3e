
/-
  The contract of strata.Levels.
-/
import Derived.Test.YtgljjapglgcpdaaGreatDoorStrPlain
import Derived.Test.YtgljjapglgcpdaaGreatDoorStrDist
import Derived.Test.YtgljjapglgcpdaaGreatDoorEdSort
import Derived.Test.YtgljjapglgcpdaaGreatDoorSmall3
import Derived.Test.YtgljjapglgcpdaaGreatDoorLex
namespace Go.Proofs.YtgljjapglgcpdaaGreatDoor
open Go.RowKit Go.MapKept

/-- a map that holds levels -/
structure LevKv (kv : List (ByteArray × Value)) (f : LvF) (N : List ByteArray) : Prop where
  vals : ∀ s, (aget kv s).getD (.int .i64 0) = .int .i64 (f s)
  keys : ∀ x ∈ kv, x.1 ∈ N
  le : ∀ s, f s ≤ N.length
def sumKv (kv : List (ByteArray × Value)) : Nat := (kv.map fun x => (intOf x.2).toNat).sum
/-- the sum of a map's numbers -/
def sumM (w : World) (b : Nat) : Nat := match w.heap[b]? with
  | some (.map es _) => (es.toList.map fun e => (intOf e.val).toNat).sum
  | _ => 0
theorem MapAt.sum {w : World} {b : Nat} {kv : List (ByteArray × Value)} (h : MapAt w encB b kv) : sumM w b = sumKv kv := by
  obtain ⟨es, clock, hb, _, hv, _⟩ := h
  have h1 : es.toList.map (fun e => (intOf e.val).toNat) = (es.toList.map (·.val)).map (fun v => (intOf v).toNat) := by rw [List.map_map]; rfl
  have h2 : kv.map (fun x => (intOf x.2).toNat) = (kv.map (·.2)).map (fun v => (intOf v).toNat) := by rw [List.map_map]; rfl
  simp only [sumM, hb, sumKv]
  rw [h1, h2, hv]
theorem LevKv.nil (N : List ByteArray) : LevKv [] (fun _ => 0) N := ⟨fun s => rfl, by simp, fun s => Nat.zero_le _⟩
theorem LevKv.raise {kv : List (ByteArray × Value)} {f : LvF} {N : List ByteArray} {e : Ed} (h : LevKv kv f N) (he : e.f ∈ N) (hn : f e.t + stepN e ≤ N.length) : LevKv (aset kv e.f (.int .i64 ((f e.t + stepN e : Nat) : Int))) (raise f e) N := by
  refine ⟨fun s => ?_, fun x hx => ?_, fun s => ?_⟩
  · rw [aget_aset]
    unfold Proofs.YtgljjapglgcpdaaGreatDoor.raise
    split
    · rfl
    · exact h.vals s
  · have : x.1 ∈ (aset kv e.f (.int .i64 ((f e.t + stepN e : Nat) : Int))).map (·.1) := List.mem_map.2 ⟨x, hx, rfl⟩
    rcases (mem_aset kv _ _ _).1 this with h1 | h1
    · rw [h1]; exact he
    · obtain ⟨y, hy, e1⟩ := List.mem_map.1 h1
      rw [← e1]; exact h.keys y hy
  · unfold Proofs.YtgljjapglgcpdaaGreatDoor.raise
    split
    · exact hn
    · exact h.le s
theorem sumKv_aset : ∀ (kv : List (ByteArray × Value)) (a : ByteArray) (n : Nat), sumKv (aset kv a (.int .i64 (n : Int))) + (intOf ((aget kv a).getD (.int .i64 0))).toNat = sumKv kv + n
  | [], a, n => by simp [sumKv, aset, aget, intOf]
  | x :: r, a, n => by
    have := sumKv_aset r a n
    simp only [aset, aget]
    split
    · simp only [sumKv, List.map_cons, List.sum_cons, Option.getD_some, intOf]; omega
    · simp only [sumKv, List.map_cons, List.sum_cons] at this ⊢; omega
theorem aget_mem : ∀ {kv : List (ByteArray × Value)} {x : ByteArray × Value}, (kv.map (·.1)).Nodup → x ∈ kv → aget kv x.1 = some x.2
  | y :: r, x, hn, hx => by
    simp only [List.map_cons, List.nodup_cons] at hn
    simp only [aget]
    rcases List.mem_cons.1 hx with rfl | hx
    · simp
    · rw [if_neg (fun e => hn.1 (by rw [e]; exact List.mem_map.2 ⟨x, hx, rfl⟩))]
      exact aget_mem hn.2 hx
theorem sum_le_mul {α : Type} (g : α → Nat) (m : Nat) : ∀ (l : List α), (∀ x ∈ l, g x ≤ m) → (l.map g).sum ≤ l.length * m
  | [], _ => by simp
  | x :: r, h => by
    have h1 := h x (by simp)
    have h2 := sum_le_mul g m r (fun y hy => h y (by simp [hy]))
    simp only [List.map_cons, List.sum_cons, List.length_cons, Nat.add_mul]; omega
theorem LevKv.sum_le {kv : List (ByteArray × Value)} {f : LvF} {N : List ByteArray} (h : LevKv kv f N) (hn : (kv.map (·.1)).Nodup) : sumKv kv ≤ N.length * N.length := by
  have h1 := sum_le_mul (fun x : ByteArray × Value => (intOf x.2).toNat) N.length kv (fun x hx => by
    have h2 := h.vals x.1
    rw [aget_mem hn hx] at h2
    simp only [Option.getD_some] at h2
    rw [h2]
    have := h.le x.1
    simp only [intOf]; omega)
  have h3 : kv.length ≤ N.length := by
    have := nodup_len hn (m := N) (fun s hs => by obtain ⟨y, hy, rfl⟩ := List.mem_map.1 hs; exact h.keys y hy)
    simpa using this
  have := Nat.mul_le_mul_right N.length h3
  unfold sumKv; omega
theorem strataStep' (e : Ed) (w : World) :
    Calls Tryz.prog 61 #[.agg #[.string e.f, .string e.t, .bool e.n]] w fun r w' => r = .returned (.int .i64 (stepN e : Nat)) ∧ Ch [] w w' :=
  (strataStep e w).mono fun r w' ⟨h1, h2⟩ => ⟨by rw [h1]; simp only [stepN]; split <;> rfl, h2⟩

set_option maxRecDepth 100000 in
set_option maxHeartbeats 4000000 in
theorem strataLevels_ (p) (v : Value) (l : List Ru) (w : World) (h : SlR p w v l) (hn1 : (relsOf l).length ≤ 101000) (hf2 : (edgesOf l).length ≤ 100000) (hnm : NmOk l) :
    Calls Tryz.prog 25 #[v] w fun r w' => ∃ v' n o, r = .returned (.tuple #[v', .int .i64 n]) ∧ LvAns (edgesOf l) (relsOf l) o ∧ LvRes w.heap.size w' v' n o ∧ Ch [] w w' := by
  obtain ⟨a, c, rfl, hlc, hm⟩ := h.form
  unfold maxLen at hm
  have HE := Lib.hid (ends_of l)
  have hR := fun wz hz => depRelations_ p (.slice a l.length c) l wz hz hn1 hnm
  have hD := fun wz hz => depEdges_ p (.slice a l.length c) l wz hz hf2
  clear hf2
  generalize relsOf l = N at *
  generalize edgesOf l = es at *
  have hmm := @run_makeMap Tryz.prog
  go_enter Tryz.func25, Tryz.ntmps25
  go_wp2_with (first
    | (go_at_call 60; refine (hR _ h).mono ?_; rintro e w1 ⟨v1, rfl, h1, hc1⟩; clear hR; obtain ⟨a1, c1, rfl, hl1, hm1⟩ := h1.form)
    | (go_at_call 57; refine (hD _ (h.ch0 hc1)).mono ?_; rintro e w2 ⟨v2, rfl, h2, hc2⟩; clear hD; obtain ⟨a2, c2, rfl, hl2, hm2⟩ := h2.form))
  have hN2 := h1.ch0 hc2
  unfold maxLen at hm1 hm2
  have hBw := hc1.trans hc2
  have hnn : N.length * N.length ≤ N.length * N.length := Nat.le_refl _
  have HBB := Lib.hid hnn; clear hnn
  go_loopw [7] (fun ch wr => ∃ (b : Bool) (kv : List (ByteArray × Value)) (f : LvF), ch = .bool b ∧ Ch [] w2 wr ∧ MapAt wr encB w2.heap.size kv ∧ Hid (LevKv kv f N) ∧ Hid (Lower es f) ∧ Hid (b = false → Strat es f)) (fun ch wr => (N.length * N.length - sumM wr w2.heap.size) + boolN ch)
  case atStart => exact ⟨true, [], fun _ => 0, rfl, (Ch.refl _ _).alloc _, MapAt.new _ _, LevKv.nil N, Lower.zero es, fun h => by cases h⟩
  case round =>
    obtain ⟨b, kv, f, rfl, hB, hM, HK, HL, HS⟩ := hrel
    have HM0 := Lib.hid hM.sum
    cases b with
    | true =>
      go_wp2
      obtain ⟨wo, rfl⟩ : ∃ wo : World, wo = wr := ⟨_, rfl⟩
      go_loopw [7, 22] (fun ch i wq => ∃ (k : Nat) (b : Bool) (kv' : List (ByteArray × Value)) (f : LvF), ch = .bool b ∧ k ≤ es.length ∧ i = .int .i64 k ∧ Ch [] w2 wq ∧ MapAt wq encB w2.heap.size kv' ∧ Hid (LevKv kv' f N) ∧ Hid (Lower es f) ∧ Hid (b = false → Strat (es.take k) f) ∧ Hid (sumKv kv + boolN (.bool b) ≤ sumKv kv')) (fun _ i _ => es.length - (intOf i).toNat)
      case atStart => exact ⟨0, false, kv, f, rfl, Nat.zero_le _, rfl, hB, hM, HK, HL, fun _ => by intro e he; simp at he, by simp [boolN, Hid]⟩
      case round =>
        obtain ⟨k, b, kv2, f2, rfl, hk, rfl, hB2, hM2, HK2, HL2, HS2, HU2⟩ := hrel
        by_cases hlt : k < es.length
        · obtain ⟨bb, o, rfl, hp, c0, c1, c2⟩ := h2.at_ hlt
          have c0 := cell_ch c0 hB2 (by simp)
          have c1 := cell_ch c1 hB2 (by simp)
          have c2 := cell_ch c2 hB2 (by simp)
          have hmem := List.getElem_mem hlt
          have hend := HE.out _ hmem
          have HT := Lib.hid (take_snoc es k hlt)
          obtain ⟨x, hx⟩ : ∃ x, es[k] = x := ⟨_, rfl⟩
          rw [hx] at c0 c1 c2 hmem hend HT
          clear hx
          have HME := Lib.hid hmem; clear hmem
          have HEN := Lib.hid hend; clear hend
          have hle := HK2.out.le x.t
          have hst : stepN x ≤ 1 := by unfold stepN; split <;> omega
          obtain ⟨wA, hwA⟩ : ∃ wA, wA = wr.alloc (.cells #[.string x.f, .string x.t, .bool x.n] 103) := ⟨_, rfl⟩
          have hbox : Blk wA wr.heap.size 103 #[.string x.f, .string x.t, .bool x.n] := by rw [hwA]; exact Blk.new _ _ _
          have hcA : Ch [] wr wA := by rw [hwA]; exact (Ch.refl _ _).alloc _
          have hMA := hM2.ch hcA (by simp)
          have b0 := Later.cell (hbox.cell 0)
          have b1 := Later.cell (hbox.cell 1)
          have b2 := Later.cell (hbox.cell 2)
          have l1 := fun y : Later wA => look_i (hMA.ch y.ch (by simp)) x.t
          have hv1 := HK2.out.vals x.t
          have hv2 := HK2.out.vals x.f
          simp only [hv1] at l1
          obtain ⟨nd, hnd⟩ : ∃ nd : Nat, nd = f2 x.t + stepN x := ⟨_, rfl⟩
          have hw : IntKind.i64.wrap ((f2 x.t : Int) + (stepN x : Int)) = (nd : Int) := by rw [hnd]; simp [IntKind.wrap, IntKind.signed, IntKind.bits]; omega
          have hndN : nd ≤ N.length + 1 := by omega
          have HND := Lib.hid hnd; clear hnd
          have hstep := fun y : Later wA => later_call (strataStep' x y.w)
          go_wp2
          rw [← hwA]
          clear hwA
          refine wp_region_later (by kernel_rfl) (by kernel_rfl) ?_
          repeat (go_big_quiet_step (exact hstep _))
          refine wpQuiet_nil ?_
          intro w3 hw3
          have hM3 := hMA.ch hw3 (by simp)
          have hbox3 := hbox.ch hw3 (by simp)
          have hB3 := (hB2.trans hcA).trans hw3
          have d0 := hbox3.cell 0
          have l3 := look_i hM3 x.f
          rw [hv2] at l3
          clear l1 hstep b0 b1 b2
          cases hdd : decide (f2 x.f < nd)
          · have HDD := Lib.hid (of_decide_eq_false hdd)
            go_wp2
            go_roundw
            case rel => exact ⟨k + 1, b, kv2, f2, rfl, by omega, by go_num, hB3, hM3, HK2, HL2, fun hb => by
              intro e he
              rw [HT.out] at he
              rcases List.mem_append.1 he with he | he
              · exact HS2.out hb e he
              · rw [List.mem_singleton.1 he]; have h1 := HND.out; have h2 := HDD.out; omega, HU2⟩
            case measure => simp [intOf]; omega
          · have HDD := Lib.hid (of_decide_eq_true hdd)
            obtain ⟨w4, hrun4, hm4, hc4, hs4⟩ := upd_i hM3 x.f (.int .i64 (nd : Int))
            by_cases hbig : N.length ≤ nd
            · go_wp2
              go_ret2
              exact ⟨_, _, none, rfl, .inr ⟨no_strat HE.out HL2.out HME.out (by rw [← HND.out]; exact hbig), rfl⟩, ⟨rfl, rfl⟩, (hBw.trans hB3).step hc4 (fun y hy => .inr (by have := hBw.size; simp at hy; omega))⟩
            · go_wp2
              have hra := lift_raise (f := f2) (e := x) (by rw [← HND.out]; exact HDD.out)
              go_roundw
              case rel => exact ⟨k + 1, true, _, raise f2 x, rfl, by omega, by go_num, hB3.step hc4 (by simp), hm4, by
                have := HK2.out.raise HEN.out.1 (e := x) (by rw [← HND.out]; omega)
                rw [← HND.out] at this; exact this, HL2.out.raise HME.out, (fun hb => by cases hb), by
                have h1 := sumKv_aset kv2 x.f nd
                rw [hv2] at h1
                have h2 := HU2.out
                have h3 := HDD.out
                have h4 : boolN (.bool true) = 1 := rfl
                unfold Hid
                rw [h4]
                simp only [intOf, Int.toNat_natCast] at h1
                omega⟩
              case measure => simp [intOf]; omega
        · have : k = es.length := by omega
          subst this
          rw [List.take_length] at HS2
          have HM1 := Lib.hid hM2.sum
          have hsl := HK2.out.sum_le hM2.nodup
          have HSL := Lib.hid hsl; clear hsl
          go_wp2
          go_roundw
          case rel => exact ⟨b, kv2, f2, rfl, hB2, hM2, HK2, HL2, HS2⟩
          case measure =>
            rw [HM0.out, HM1.out]
            have h0 := HU2.out
            have h1 := HSL.out
            have h2 : boolN (.bool true) = 1 := rfl
            rw [h2]
            cases b with
            | true => rw [h2] at h0 ⊢; omega
            | false =>
              have h3 : boolN (.bool false) = 0 := rfl
              rw [h3] at h0 ⊢; omega
    | false =>
      obtain ⟨wo, rfl⟩ : ∃ wo : World, wo = wr := ⟨_, rfl⟩
      go_wp2
      go_loopw [11, 50] (fun o i wq => ∃ k : Nat, k ≤ N.length ∧ i = .int .i64 k ∧ Ch [] wo wq ∧ Own wq wo.heap.size 106 2 o ((lvList (N.take k) f).map Lv.enc)) (fun _ i _ => N.length - (intOf i).toNat)
      case atStart => exact ⟨0, Nat.zero_le _, rfl, Ch.refl _ _, Own.nil _ _ _ _⟩
      case round =>
        obtain ⟨k, hk, rfl, hB5, ho⟩ := hrel
        by_cases hlt : k < N.length
        · obtain ⟨b5, o5, rfl, hp5, c5⟩ := hN2.at_ hlt
          have c5 := cell_ch c5 (hB.trans hB5) (by simp)
          have hM5 := hM.ch hB5 (by simp)
          have hv := HK.out.vals N[k]
          have l5 := look_i hM5 N[k]
          rw [hv] at l5
          have HS5 := Lib.hid (lvList_snoc N f k hlt)
          have hll : (lvList (N.take k) f).length = k := by simp [lvList]; omega
          generalize hlv : lvList (N.take k) f = lv0 at *
          clear hlv hv
          generalize N[k] = x at *
          go_wp2_with (at_builtin; refine wpList_append_sl rfl _ _ _ rfl elL (base := wo.heap.size) (v := u11) (css := lv0.map Lv.enc) rfl (ho.ch ((Ch.refl [] wr).alloc _) (by simp)) rfl (Sl.one wr 2 _ [.string x, .int .i64 (f x : Int)] rfl (by simp [Value.oneCell'])) (by simp; omega) (by have := hB5.size; simp; omega) ?_; intro v6 w6 ho6 hc6 hat6 hn6; clear hn6)
          go_roundw
          case rel => exact ⟨k + 1, by omega, by go_num, (hB5.alloc _).step hc6 (fun y hy => .inr (by
            cases hu : u11.ownBlock with
            | none => rw [hu] at hy; cases hy
            | some g => rw [hu] at hy; simp at hy; subst hy; exact (ho.lt hu).1)), by rw [HS5.out]; exact ho6⟩
          case measure => simp [intOf]; omega
        · have : k = N.length := by omega
          subst this
          rw [List.take_length] at ho
          have hBB := (hBw.trans hB)
          go_wp2
          go_ret2
          exact ⟨_, _, some (lvList N f), rfl, .inl ⟨f, HS.out (by simp), HL.out, rfl⟩, ⟨(show SlL _ _ _ _ from ho.sl).weak (fun b _ hb => Nat.le_trans hBB.size hb.1), rfl⟩, hBB.trans hB5⟩
theorem strataLevels (p) (v : Value) (l : List Ru) (w : World) (h : SlR p w v l) (hf : Fit l) (hnm : NmOk l) :
    Calls Tryz.prog 25 #[v] w fun r w' => ∃ v' n o, r = .returned (.tuple #[v', .int .i64 n]) ∧ LvAns (edgesOf l) (relsOf l) o ∧ LvRes w.heap.size w' v' n o ∧ Ch [] w w' := strataLevels_ p v l w h (relsOf_len hf) (by have := edgesOf_len hf l.length; rwa [List.take_length] at this) hnm
end Go.Proofs.YtgljjapglgcpdaaGreatDoor
