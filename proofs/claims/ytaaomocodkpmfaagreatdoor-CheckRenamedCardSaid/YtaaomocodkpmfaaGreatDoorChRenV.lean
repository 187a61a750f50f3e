
/-
  The contracts of ref07.ApplyRule, Rename, and of the law CheckRenamed.
-/
import Derived.Test.YtaaomocodkpmfaaGreatDoorChRenW
namespace Go.Proofs.YtaaomocodkpmfaaGreatDoor

section
section
open Go.RowKit

theorem appRule_fin {w wz : World} {B1 B2 : Nat} {nm : ByteArray} {va vb z0 z1 z2 : Value} {ags : List Tm} {body : List Li} (hr : Blk wz B1 27 #[z0, z1, z2]) (hB : Ch [] w wz) (hl : w.heap.size ≤ B1)
    (a : Act) (h4 : a.tmps.getD 4 undef = .pointer (some ⟨B1, 0, none⟩)) (h5 : a.defers = [])
    (hin : SlT (fun b => w.heap.size ≤ b ∧ b ≠ B1) wz va ags) (hbo : OwnG LiR 45 3 wz (B2 + 1) vb body) (h12 : B1 < B2) :
    bodyPost Tryz.prog Tryz.f23 (fun e w' => ∃ va vb, e = .returned (.agg #[.string nm, va, vb]) ∧ SlT (fun b => w.heap.size ≤ b) w' va ags ∧ SlLi (fun b => w.heap.size ≤ b) w' vb body ∧ Ch [] w w') .ret a
      (((wz.setCell ⟨B1, 0, none⟩ (.string nm)).setCell ⟨B1, 1, none⟩ va).setCell ⟨B1, 2, none⟩ vb) := by
  have hbF : Blk (((wz.setCell ⟨B1, 0, none⟩ (.string nm)).setCell ⟨B1, 1, none⟩ va).setCell ⟨B1, 2, none⟩ vb) B1 27 #[.string nm, va, vb] := ((hr.set_ 0 _).set_ 1 _).set_ 2 _
  have hcF : Ch [B1] wz (((wz.setCell ⟨B1, 0, none⟩ (.string nm)).setCell ⟨B1, 1, none⟩ va).setCell ⟨B1, 2, none⟩ vb) := (((Ch.refl _ _).set (by simp) _).set (by simp) _).set (by simp) _
  refine bodyPost_ret (results_cell_row (p := 4) (ty := 27) (by kernel_rfl) _ _ B1 27 _ _ _ h4 hbF Tryz.underlying27 rfl (by kernel_rfl)) h5 ?_
  exact ⟨va, vb, rfl, (hin.ch hcF (by intro b _ hb; simp; omega)).weak (fun b _ hb => by omega), SlLi.weak (OwnG.slg imp_li (hbo.ch imp_li hcF (by simp; omega))) (fun b _ hb => by omega), hB.step hcF (by simp; omega)⟩

set_option maxRecDepth 100000 in
set_option maxHeartbeats 8000000 in
theorem appRule_ (s : List Bd) (r : Ru) (B b : Nat) (hO : RuOk B b r) (p q : Nat → Prop) (vh vb vs : Value) (w : World) (hh : SlT p w vh r.head.args) (hb : SlLi p w vb r.body) (hs : Sl q w 3 vs (s.map enB)) :
    Calls Tryz.prog 23 #[vs, .agg #[.string r.head.name, vh, vb]] w fun e w' => ∃ va vb, e = .returned (.agg #[.string (subR (lkF s) r).head.name, va, vb]) ∧ SlT (fun b => w.heap.size ≤ b) w' va (subR (lkF s) r).head.args ∧ SlLi (fun b => w.heap.size ≤ b) w' vb (subR (lkF s) r).body ∧ Ch [] w w' := by
  have hlen := hO.len
  have HBM := Lib.hid hO.B
  obtain ⟨hd, body⟩ := r
  have HNI : Hid (∀ k (hk : k < body.length), Nice B b body[k].atom ∧ body[k].atom.sz ≤ 1000) := fun k hk =>
    ⟨hO.nice _ (List.mem_cons_of_mem _ (List.mem_map.2 ⟨_, List.getElem_mem hk, rfl⟩)), hO.sz _ (List.mem_cons_of_mem _ (List.mem_map.2 ⟨_, List.getElem_mem hk, rfl⟩))⟩
  have hn0 : Nice B b hd := hO.nice hd (by simp [atomsOf])
  have hz0 : hd.sz ≤ 1000 := hO.sz hd (by simp [atomsOf])
  clear hO
  simp only [subR] at hh hb hlen ⊢
  have hml : (body.map (subLi (lkF s))).length = body.length := by simp
  have HLE := Lib.hid hml; clear hml
  have HGE : Hid (∀ k (hk : k < body.length), (body.map (subLi (lkF s)))[k]'(by rw [HLE.out]; exact hk) = ⟨body[k].nt, subT (lkF s) body[k].atom⟩) := fun k hk => by simp [subLi]
  generalize hbody' : body.map (subLi (lkF s)) = body' at *
  clear hbody'
  have hap := fun wz (hz : Ch [] w wz) => apply_ s hd.sz hd (Nat.le_refl _) (by omega) B b hn0 HBM.out p q vh vs wz (hh.ch0 hz) (hs.ch0 hz)
  generalize subT (lkF s) hd = hd' at *
  replace hb : SlLi (fun b => b < w.heap.size) w vb body := SlLi.weak hb (fun b h _ => h)
  obtain ⟨ah, ch, rfl, _, _⟩ := hh.form
  obtain ⟨a, c, rfl, hlc, hmx⟩ := hb.form
  obtain ⟨av, cv, rfl, _, _⟩ := hs.form'
  simp only [List.length_map] at hs hap ⊢
  unfold maxLen at hmx
  generalize hd.args.length = hL at *
  obtain ⟨wA, hwA⟩ : ∃ wA, (w.alloc (.cells #[.string hd.name, .slice ah hL ch, .slice a body.length c] 27)).alloc (.cells #[.string ⟨#[]⟩, .slice none 0 0, .slice none 0 0] 27) = wA := ⟨_, rfl⟩
  have g0 : Blk wA w.heap.size 27 #[.string hd.name, .slice ah hL ch, .slice a body.length c] := by rw [← hwA]; exact (Blk.new _ _ _).alloc _
  have g1 : Blk wA (w.heap.size + 1) 27 #[.string ⟨#[]⟩, .slice none 0 0, .slice none 0 0] := by
    rw [← hwA]
    have := Blk.new (w.alloc (.cells #[.string hd.name, .slice ah hL ch, .slice a body.length c] 27)) 27 #[.string ⟨#[]⟩, .slice none 0 0, .slice none 0 0]
    simpa using this
  have hcA : Ch [] w wA := by rw [← hwA]; exact ((Ch.refl _ _).alloc _).alloc _
  have b0 := g0.cell 0
  have b1 := g0.cell 1
  have b2 := g0.cell 2
  generalize hd.name = nm at *
  generalize hnm' : hd'.name = nm' at *
  go_enter Tryz.func23, Tryz.ntmps23
  go_wp2_with (go_at_call 59; refine (hap _ hcA).mono ?_; rintro e w3 ⟨v3, rfl, h3, hc3⟩; clear hap; obtain ⟨a3, c3, rfl, hl3, hm3⟩ := h3.form)
  generalize hd'.args.length = n3 at *
  have hC3 := hcA.trans hc3
  have i0 := (g0.ch hc3 (by simp)).alloc (.cells #[.string nm', .slice a3 n3 c3, .slice none 0 0] 27)
  have i1 := (g1.ch hc3 (by simp)).alloc (.cells #[.string nm', .slice a3 n3 c3, .slice none 0 0] 27)
  have i2 := Blk.new w3 27 #[.string nm', .slice a3 n3 c3, .slice none 0 0]
  have hCN := hC3.alloc (.cells #[.string nm', .slice a3 n3 c3, .slice none 0 0] 27)
  have h13 : w.heap.size + 1 < wA.heap.size := g1.lt
  have h23 : wA.heap.size ≤ w3.heap.size := hc3.size
  have h3N : SlT (fun b => wA.heap.size ≤ b ∧ b < w3.heap.size) (w3.alloc (.cells #[.string nm', .slice a3 n3 c3, .slice none 0 0] 27)) (.slice a3 n3 c3) hd'.args := (h3.weak (q := fun b => wA.heap.size ≤ b ∧ b < w3.heap.size) (fun b hb h => ⟨h, hb⟩)).ch0 ((Ch.refl _ _).alloc _)
  have hsN : w3.heap.size + 1 ≤ (w3.alloc (.cells #[.string nm', .slice a3 n3 c3, .slice none 0 0] 27)).heap.size := by simp
  generalize w3.alloc (.cells #[.string nm', .slice a3 n3 c3, .slice none 0 0] 27) = wN at *
  obtain ⟨B2, hB2⟩ : ∃ B2, B2 = w3.heap.size := ⟨_, rfl⟩
  obtain ⟨B9, hB9⟩ : ∃ B9, B9 = wA.heap.size := ⟨_, rfl⟩
  rw [← hB2] at i2 h23 hsN h3N
  rw [← hB9] at h13 h23 h3N
  rw [← hB2]
  clear hB2 hB9 b0 b1 b2 g0 g1 hwA hcA
  go_loopw [6] (fun i wr => ∃ (k : Nat) (v : Value), k ≤ body.length ∧ i = .int .i64 k ∧ Ch [] w wr ∧ B2 + 1 ≤ wr.heap.size ∧ Blk wr w.heap.size 27 #[.string nm, .slice ah hL ch, .slice a body.length c] ∧ Blk wr (w.heap.size + 1) 27 #[.string ⟨#[]⟩, .slice none 0 0, .slice none 0 0] ∧ Blk wr B2 27 #[.string nm', .slice a3 n3 c3, v] ∧ SlT (fun b => B9 ≤ b ∧ b < B2) wr (.slice a3 n3 c3) hd'.args ∧ OwnG LiR 45 3 wr (B2 + 1) v (body'.take k)) (fun i _ => body.length - (intOf i).toNat)
  case atStart => exact ⟨0, _, Nat.zero_le _, rfl, hCN, hsN, i0, i1, i2, h3N, OwnG.nil _ _⟩
  case round =>
    obtain ⟨k, v, hk, rfl, hB, hszB, hr0, hr1, hr2, hv3, ho⟩ := hrel
    have z2 := hr0.cell 2
    by_cases hlt : k < body.length
    · obtain ⟨b', o, a', c', rfl, hp, c0, c1, c2, hT⟩ := (hb.ch0 hB).at_ hlt
      have HPB : Hid (b' < w.heap.size) := hp.1
      have n0 : ¬ B2 = w.heap.size := by omega
      have n1 : ¬ B2 = b' := by have := HPB.out; omega
      have HTS := Lib.hid (take_snoc body' k (by rw [HLE.out]; exact hlt))
      rw [HGE.out k hlt] at HTS
      have hnx := HNI.out k hlt
      have j1 : decide (k < body.length) = true := decide_eq_true hlt
      generalize body[k] = x at *
      obtain ⟨xn, xa⟩ := x
      simp only at hnx c0 c1 c2 hT HTS
      have hcall := apply_ s xa.sz xa (Nat.le_refl _) (by omega) B b hnx.1 HBM.out _ _ _ _ wr.drew (hT.ch0 ((Ch.refl [] wr).drew)) ((hs.ch0 hB).ch0 ((Ch.refl [] wr).drew))
      generalize subT (lkF s) xa = y at *
      obtain ⟨css, hown, hcl, hli⟩ := ho
      have HCL := Lib.hid hcl; clear hcl
      have HCK : Hid (css.length = k) := by have h1 := HCL.out; have h2 := HLE.out; unfold Hid; rw [h1]; simp; omega
      have HLV := Lib.hid (show ∀ b, v.ownBlock = some b → B2 + 1 ≤ b ∧ b < wr.heap.size from fun b hb => hown.lt hb)
      have x1 := hr2.cell 2
      go_wp2
      refine wp_region_held_drew (S := (fun w' => w'.cell? ⟨w.heap.size, 2, none⟩ = some (.slice (some ⟨b', o, none⟩) body.length c) ∧ w'.cell? ⟨b', o + k * 3, none⟩ = some (.bool xn) ∧ w'.cell? ⟨b', o + k * 3 + 1, none⟩ = some (.string xa.name) ∧ w'.cell? ⟨b', o + k * 3 + 2, none⟩ = some (.slice a' xa.args.length c'))) (by kernel_rfl) ?_ (fun hHeld => ?_)
      focus ((try dsimp only); go_keep)
      refine wpAnyH_take (i := 0) (oi := ⟨some 19, _, _, _, _, _⟩) (v := ?_) rfl (by kernel_rfl) (by kernel_rfl) (by kernel_rfl) (fun _ _ _ h => h) (Or.inl ⟨by rfl, ?_⟩) (by assumption) ?_
      rotate_left
      focus (intro wq hSw; (try dsimp only at hSw); go_simp; (try with_reducible rfl); done)
      (try simp only [Act.put, List.setIfInBounds_toArray, List.set_cons_zero, List.set_cons_succ])
      refine wpAnyH_take (i := 2) (oi := ⟨some 21, _, _, _, _, _⟩) (v := ?_) rfl (by kernel_rfl) (by kernel_rfl) (by kernel_rfl) (fun _ _ _ h => h) (Or.inl ⟨by rfl, ?_⟩) (by assumption) ?_
      rotate_left
      focus (intro wq hSw; (try dsimp only at hSw); go_simp; (try with_reducible rfl); done)
      (try simp only [Act.put, List.setIfInBounds_toArray, List.set_cons_zero, List.set_cons_succ])
      refine wpAnyH_take (i := 3) (oi := ⟨some 22, _, _, _, _, _⟩) (v := ?_) rfl (by kernel_rfl) (by kernel_rfl) (by kernel_rfl) (fun _ _ _ h => h) (Or.inl ⟨by rfl, ?_⟩) (by assumption) ?_
      rotate_left
      focus (intro wq hSw; (try dsimp only at hSw); go_simp; (try with_reducible rfl); done)
      (try simp only [Act.put, List.setIfInBounds_toArray, List.set_cons_zero, List.set_cons_succ])
      refine wpAnyH_take (i := 4) (oi := ⟨some 23, _, _, _, _, _⟩) (v := ?_) rfl (by kernel_rfl) (by kernel_rfl) (by kernel_rfl) (fun _ _ _ h => h) (Or.inl ⟨by rfl, ?_⟩) (by assumption) ?_
      rotate_left
      focus (intro wq hSw; (try dsimp only at hSw); go_simp; (try with_reducible rfl); done)
      (try simp only [Act.put, List.setIfInBounds_toArray, List.set_cons_zero, List.set_cons_succ])
      refine wpAnyH_take (i := 5) (oi := ⟨some 24, _, _, _, _, _⟩) (v := ?_) rfl (by kernel_rfl) (by kernel_rfl) (by kernel_rfl) (fun _ _ _ h => h) (Or.inl ⟨by rfl, ?_⟩) (by assumption) ?_
      rotate_left
      focus (intro wq hSw; (try dsimp only at hSw); go_simp; (try with_reducible rfl); done)
      (try simp only [Act.put, List.setIfInBounds_toArray, List.set_cons_zero, List.set_cons_succ])
      refine wpAnyH_take (i := 6) (oi := ⟨some 25, _, _, _, _, _⟩) (v := ?_) rfl (by kernel_rfl) (by kernel_rfl) (by kernel_rfl) (fun _ _ _ h => h) (Or.inl ⟨by rfl, ?_⟩) (by assumption) ?_
      rotate_left
      focus (intro wq hSw; (try dsimp only at hSw); go_simp; (try with_reducible rfl); done)
      (try simp only [Act.put, List.setIfInBounds_toArray, List.set_cons_zero, List.set_cons_succ])
      refine wpAnyH_take (i := 7) (oi := ⟨some 26, _, _, _, _, _⟩) (v := ?_) rfl (by kernel_rfl) (by kernel_rfl) (by kernel_rfl) (fun _ _ _ h => h) (Or.inl ⟨by rfl, ?_⟩) (by assumption) ?_
      rotate_left
      focus (intro wq hSw; (try dsimp only at hSw); go_simp; (try with_reducible rfl); done)
      (try simp only [Act.put, List.setIfInBounds_toArray, List.set_cons_zero, List.set_cons_succ])
      refine wpAnyH_take (i := 8) (oi := ⟨some 27, _, _, _, _, _⟩) (v := ?_) rfl (by kernel_rfl) (by kernel_rfl) (by kernel_rfl) (fun _ _ _ h => h) (Or.inl ⟨by rfl, ?_⟩) (by assumption) ?_
      rotate_left
      focus (intro wq hSw; (try dsimp only at hSw); go_simp; (try with_reducible rfl); done)
      (try simp only [Act.put, List.setIfInBounds_toArray, List.set_cons_zero, List.set_cons_succ])
      refine wpAnyH_take (i := 9) (oi := ⟨some 28, _, _, _, _, _⟩) (v := ?_) rfl (by kernel_rfl) (by kernel_rfl) (by kernel_rfl) (fun _ _ _ h => h) (Or.inl ⟨by rfl, ?_⟩) (by assumption) ?_
      rotate_left
      focus (intro wq hSw; (try dsimp only at hSw); go_simp; (try with_reducible rfl); done)
      (try simp only [Act.put, List.setIfInBounds_toArray, List.set_cons_zero, List.set_cons_succ])
      refine wpAnyH_take (i := 10) (oi := ⟨some 29, _, _, _, _, _⟩) (v := ?_) rfl (by kernel_rfl) (by kernel_rfl) (by kernel_rfl) (fun _ _ _ h => h) (Or.inl ⟨by rfl, ?_⟩) (by assumption) ?_
      rotate_left
      focus (intro wq hSw; (try dsimp only at hSw); go_simp; (try with_reducible rfl); done)
      (try simp only [Act.put, List.setIfInBounds_toArray, List.set_cons_zero, List.set_cons_succ])
      refine wpAnyH_take (i := 11) (oi := ⟨some 30, _, _, _, _, _⟩) (v := ?_) rfl (by kernel_rfl) (by kernel_rfl) (by kernel_rfl) (fun _ _ _ h => h) (Or.inl ⟨by rfl, ?_⟩) (by assumption) ?_
      rotate_left
      focus (intro wq hSw; (try dsimp only at hSw); go_simp; (try with_reducible rfl); done)
      (try simp only [Act.put, List.setIfInBounds_toArray, List.set_cons_zero, List.set_cons_succ])
      refine wpAnyH_take (i := 12) (oi := ⟨some 31, _, _, _, _, _⟩) (v := ?_) rfl (by kernel_rfl) (by kernel_rfl) (by kernel_rfl) (fun _ _ _ h => h) (Or.inl ⟨by rfl, ?_⟩) (by assumption) ?_
      rotate_left
      focus (intro wq hSw; (try dsimp only at hSw); go_simp; (try with_reducible rfl); done)
      (try simp only [Act.put, List.setIfInBounds_toArray, List.set_cons_zero, List.set_cons_succ])
      refine wpAnyH_take (i := 13) (oi := ⟨some 32, _, _, _, _, _⟩) (v := ?_) rfl (by kernel_rfl) (by kernel_rfl) (by kernel_rfl) (fun _ _ _ h => h) (Or.inl ⟨by rfl, ?_⟩) (by assumption) ?_
      rotate_left
      focus (intro wq hSw; (try dsimp only at hSw); go_simp; (try with_reducible rfl); done)
      (try simp only [Act.put, List.setIfInBounds_toArray, List.set_cons_zero, List.set_cons_succ])
      refine wpAnyH_take (i := 14) (oi := ⟨some 33, _, _, _, _, _⟩) (v := ?_) rfl (by kernel_rfl) (by kernel_rfl) (by kernel_rfl) (fun _ _ _ h => h) (Or.inl ⟨by rfl, ?_⟩) (by assumption) ?_
      rotate_left
      focus (intro wq hSw; (try dsimp only at hSw); go_simp; (try with_reducible rfl); done)
      (try simp only [Act.put, List.setIfInBounds_toArray, List.set_cons_zero, List.set_cons_succ])
      refine wpAnyH_ready (rs := [1, 15]) (by kernel_rfl) (by simp) ?_
      refine AllReadyH.cons (o := ⟨some 20, _, _, _, _, _⟩) rfl (fun K hK => ?_) ?_
      go_simp
      refine hK.out _ _ ?_ (fun hHeld => ?_)
      focus ((try dsimp only); go_keep)
      clear hK K
      (try simp only [Act.put, List.setIfInBounds_toArray, List.set_cons_zero, List.set_cons_succ])
      refine wpAnyH_ready (rs := [15]) (by kernel_rfl) (by simp) ?_
      refine AllReadyH.cons (o := ⟨some 34, _, _, _, _, _⟩) rfl (fun K hK => ?_) ?_
      (go_simp; go_at_call 59; with_reducible refine hcall.mono ?_; rintro e w4 ⟨va, rfl, hva, hc4⟩; obtain ⟨a5, c5, rfl, hl5, hm5⟩ := hva.form; have hr54 := (Blk.drew hr2).ch hc4 (by simp); have x4 := hr54.cell 2; have x5 := (hr54.alloc (.cells #[.bool xn, .string y.name, .slice a5 y.args.length c5] 45)).cell 2; have hr04 := ((Blk.drew hr0).ch hc4 (by simp)).cell 2; have d0 := cell_ch (S := []) c0 (((Ch.refl [] wr).drew).trans hc4) (by simp); have d1 := cell_ch (S := []) c1 (((Ch.refl [] wr).drew).trans hc4) (by simp); have d2 := cell_ch (S := []) c2 (((Ch.refl [] wr).drew).trans hc4) (by simp))
      (try go_wp2_with fail)
      refine hK.out _ _ ?_ (fun hHeld => ?_)
      focus ((try dsimp only); go_keep)
      clear hK K
      (try simp only [Act.put, List.setIfInBounds_toArray, List.set_cons_zero, List.set_cons_succ])
      refine wpAnyH_take (i := 16) (oi := ⟨some 35, _, _, _, _, _⟩) (v := ?_) rfl (by kernel_rfl) (by kernel_rfl) (by kernel_rfl) (fun _ _ _ h => h) (Or.inl ⟨by rfl, ?_⟩) (by assumption) ?_
      rotate_left
      focus (intro wq hSw; (try dsimp only at hSw); go_simp; (try with_reducible rfl); done)
      (try simp only [Act.put, List.setIfInBounds_toArray, List.set_cons_zero, List.set_cons_succ])
      refine wpAnyH_ready (rs := [17]) (by kernel_rfl) (by simp) ?_
      refine AllReadyH.cons (o := ⟨some 36, _, _, _, _, _⟩) rfl (fun K hK => ?_) ?_
      go_simp
      refine hK.out _ _ ?_ (fun hHeld => ?_)
      focus ((try dsimp only); go_keep)
      clear hK K
      (try simp only [Act.put, List.setIfInBounds_toArray, List.set_cons_zero, List.set_cons_succ])
      refine wpAnyH_ready (rs := [18]) (by kernel_rfl) (by simp) ?_
      refine AllReadyH.cons (o := ⟨some 37, _, _, _, _, _⟩) rfl (fun K hK => ?_) ?_
      (refine step_append_sl rfl _ _ _ rfl elB (base := B2 + 1) (v := v) rfl ((((Own.ch hown ((Ch.refl [] wr).drew) (by simp)).ch0' hc4)).ch ((Ch.refl [] w4).alloc _) (by simp)) rfl (Sl.one w4 3 45 [.bool xn, .string y.name, .slice a5 y.args.length c5] rfl (by simp [Value.oneCell'])) (by have := HCK.out; simp; omega) (by have := hc4.size; simp at this; simp; omega) ?_; intro v6 w6 ho6 hc6 hat6 hn6; clear hn6; obtain ⟨a7, c7, rfl⟩ := ho6.form'; have hr56 := (hr54.alloc (.cells #[.bool xn, .string y.name, .slice a5 y.args.length c5] 45)).ch hc6 (by intro hm; cases hvo : v.ownBlock with | none => rw [hvo] at hm; cases hm | some g6 => rw [hvo] at hm; have := (HLV.out g6 hvo).1; simp at hm; omega); have x6 := hr56.cell 2; have y6 := hr56.frozen 2; have hnm : ∀ g, g ≤ w.heap.size → g ∉ v.ownBlock.toList := (fun g hg hm => by cases hvo : v.ownBlock with | none => rw [hvo] at hm; cases hm | some g6 => rw [hvo] at hm; have := (HLV.out g6 hvo).1; simp at hm; omega); have hcA5 : Ch [] wr (w4.alloc (.cells #[.bool xn, .string y.name, .slice a5 y.args.length c5] 45)) := (((Ch.refl [] wr).drew).trans hc4).alloc _; have e0 := cell_ch (cell_ch z2 hcA5 (by simp)) hc6 (hnm _ (Nat.le_refl _)); have e1 := cell_ch (cell_ch c0 hcA5 (by simp)) hc6 (hnm _ (by have := HPB.out; simp; omega)); have e2 := cell_ch (cell_ch c1 hcA5 (by simp)) hc6 (hnm _ (by have := HPB.out; simp; omega)); have e3 := cell_ch (cell_ch c2 hcA5 (by simp)) hc6 (hnm _ (by have := HPB.out; simp; omega)); clear hnm hcA5)
      refine hK.out _ _ ?_ (fun hHeld => ?_)
      focus ((try dsimp only); go_keep)
      clear hK K
      (try simp only [Act.put, List.setIfInBounds_toArray, List.set_cons_zero, List.set_cons_succ])
      refine wpAnyH_take (i := 19) (oi := ⟨some 38, _, _, _, _, _⟩) (v := ?_) rfl (by kernel_rfl) (by kernel_rfl) (by kernel_rfl) (fun _ _ _ h => h) (Or.inl ⟨by rfl, ?_⟩) (by assumption) ?_
      rotate_left
      focus (intro wq hSw; (try dsimp only at hSw); go_simp; (try with_reducible rfl); done)
      (try simp only [Act.put, List.setIfInBounds_toArray, List.set_cons_zero, List.set_cons_succ])
      refine wpAnyH_ready (rs := [20]) (by kernel_rfl) (by simp) ?_
      refine AllReadyH.cons (o := ⟨none, _, _, _, _, _⟩) rfl (fun K hK => ?_) ?_
      go_simp
      refine hK.out _ _ ?_ (fun hHeld => ?_)
      focus ((try dsimp only); go_keep)
      clear hK K
      (try simp only [Act.put, List.setIfInBounds_toArray, List.set_cons_zero, List.set_cons_succ])
      refine wpAnyH_done (by kernel_rfl) ?_ _
      rotate_left
      exact AllReadyH.nil
      exact AllReadyH.nil
      exact AllReadyH.nil
      exact AllReadyH.nil
      refine AllReadyH.cons (o := ⟨some 34, _, _, _, _, _⟩) rfl (fun K hK => ?_) ?_
      (go_simp; go_at_call 59; with_reducible refine hcall.mono ?_; rintro e w4 ⟨va, rfl, hva, hc4⟩; obtain ⟨a5, c5, rfl, hl5, hm5⟩ := hva.form; have hr54 := (Blk.drew hr2).ch hc4 (by simp); have x4 := hr54.cell 2; have x5 := (hr54.alloc (.cells #[.bool xn, .string y.name, .slice a5 y.args.length c5] 45)).cell 2; have hr04 := ((Blk.drew hr0).ch hc4 (by simp)).cell 2; have d0 := cell_ch (S := []) c0 (((Ch.refl [] wr).drew).trans hc4) (by simp); have d1 := cell_ch (S := []) c1 (((Ch.refl [] wr).drew).trans hc4) (by simp); have d2 := cell_ch (S := []) c2 (((Ch.refl [] wr).drew).trans hc4) (by simp))
      (try go_wp2_with fail)
      refine hK.out _ _ ?_ (fun hHeld => ?_)
      focus ((try dsimp only); go_keep)
      clear hK K
      (try simp only [Act.put, List.setIfInBounds_toArray, List.set_cons_zero, List.set_cons_succ])
      refine wpAnyH_take (i := 16) (oi := ⟨some 35, _, _, _, _, _⟩) (v := ?_) rfl (by kernel_rfl) (by kernel_rfl) (by kernel_rfl) (fun _ _ _ h => h) (Or.inl ⟨by rfl, ?_⟩) (by assumption) ?_
      rotate_left
      focus (intro wq hSw; (try dsimp only at hSw); go_simp; (try with_reducible rfl); done)
      (try simp only [Act.put, List.setIfInBounds_toArray, List.set_cons_zero, List.set_cons_succ])
      refine wpAnyH_ready (rs := [1, 17]) (by kernel_rfl) (by simp) ?_
      refine AllReadyH.cons (o := ⟨some 20, _, _, _, _, _⟩) rfl (fun K hK => ?_) ?_
      go_simp
      refine hK.out _ _ ?_ (fun hHeld => ?_)
      focus ((try dsimp only); go_keep)
      clear hK K
      (try simp only [Act.put, List.setIfInBounds_toArray, List.set_cons_zero, List.set_cons_succ])
      refine wpAnyH_ready (rs := [17]) (by kernel_rfl) (by simp) ?_
      refine AllReadyH.cons (o := ⟨some 36, _, _, _, _, _⟩) rfl (fun K hK => ?_) ?_
      go_simp
      refine hK.out _ _ ?_ (fun hHeld => ?_)
      focus ((try dsimp only); go_keep)
      clear hK K
      (try simp only [Act.put, List.setIfInBounds_toArray, List.set_cons_zero, List.set_cons_succ])
      refine wpAnyH_ready (rs := [18]) (by kernel_rfl) (by simp) ?_
      refine AllReadyH.cons (o := ⟨some 37, _, _, _, _, _⟩) rfl (fun K hK => ?_) ?_
      (refine step_append_sl rfl _ _ _ rfl elB (base := B2 + 1) (v := v) rfl ((((Own.ch hown ((Ch.refl [] wr).drew) (by simp)).ch0' hc4)).ch ((Ch.refl [] w4).alloc _) (by simp)) rfl (Sl.one w4 3 45 [.bool xn, .string y.name, .slice a5 y.args.length c5] rfl (by simp [Value.oneCell'])) (by have := HCK.out; simp; omega) (by have := hc4.size; simp at this; simp; omega) ?_; intro v6 w6 ho6 hc6 hat6 hn6; clear hn6; obtain ⟨a7, c7, rfl⟩ := ho6.form'; have hr56 := (hr54.alloc (.cells #[.bool xn, .string y.name, .slice a5 y.args.length c5] 45)).ch hc6 (by intro hm; cases hvo : v.ownBlock with | none => rw [hvo] at hm; cases hm | some g6 => rw [hvo] at hm; have := (HLV.out g6 hvo).1; simp at hm; omega); have x6 := hr56.cell 2; have y6 := hr56.frozen 2; have hnm : ∀ g, g ≤ w.heap.size → g ∉ v.ownBlock.toList := (fun g hg hm => by cases hvo : v.ownBlock with | none => rw [hvo] at hm; cases hm | some g6 => rw [hvo] at hm; have := (HLV.out g6 hvo).1; simp at hm; omega); have hcA5 : Ch [] wr (w4.alloc (.cells #[.bool xn, .string y.name, .slice a5 y.args.length c5] 45)) := (((Ch.refl [] wr).drew).trans hc4).alloc _; have e0 := cell_ch (cell_ch z2 hcA5 (by simp)) hc6 (hnm _ (Nat.le_refl _)); have e1 := cell_ch (cell_ch c0 hcA5 (by simp)) hc6 (hnm _ (by have := HPB.out; simp; omega)); have e2 := cell_ch (cell_ch c1 hcA5 (by simp)) hc6 (hnm _ (by have := HPB.out; simp; omega)); have e3 := cell_ch (cell_ch c2 hcA5 (by simp)) hc6 (hnm _ (by have := HPB.out; simp; omega)); clear hnm hcA5)
      refine hK.out _ _ ?_ (fun hHeld => ?_)
      focus ((try dsimp only); go_keep)
      clear hK K
      (try simp only [Act.put, List.setIfInBounds_toArray, List.set_cons_zero, List.set_cons_succ])
      refine wpAnyH_take (i := 19) (oi := ⟨some 38, _, _, _, _, _⟩) (v := ?_) rfl (by kernel_rfl) (by kernel_rfl) (by kernel_rfl) (fun _ _ _ h => h) (Or.inl ⟨by rfl, ?_⟩) (by assumption) ?_
      rotate_left
      focus (intro wq hSw; (try dsimp only at hSw); go_simp; (try with_reducible rfl); done)
      (try simp only [Act.put, List.setIfInBounds_toArray, List.set_cons_zero, List.set_cons_succ])
      refine wpAnyH_ready (rs := [20]) (by kernel_rfl) (by simp) ?_
      refine AllReadyH.cons (o := ⟨none, _, _, _, _, _⟩) rfl (fun K hK => ?_) ?_
      go_simp
      refine hK.out _ _ ?_ (fun hHeld => ?_)
      focus ((try dsimp only); go_keep)
      clear hK K
      (try simp only [Act.put, List.setIfInBounds_toArray, List.set_cons_zero, List.set_cons_succ])
      refine wpAnyH_done (by kernel_rfl) ?_ _
      rotate_left
      exact AllReadyH.nil
      exact AllReadyH.nil
      exact AllReadyH.nil
      refine AllReadyH.cons (o := ⟨some 36, _, _, _, _, _⟩) rfl (fun K hK => ?_) ?_
      go_simp
      refine hK.out _ _ ?_ (fun hHeld => ?_)
      focus ((try dsimp only); go_keep)
      clear hK K
      (try simp only [Act.put, List.setIfInBounds_toArray, List.set_cons_zero, List.set_cons_succ])
      refine wpAnyH_ready (rs := [1]) (by kernel_rfl) (by simp) ?_
      refine AllReadyH.cons (o := ⟨some 20, _, _, _, _, _⟩) rfl (fun K hK => ?_) ?_
      go_simp
      refine hK.out _ _ ?_ (fun hHeld => ?_)
      focus ((try dsimp only); go_keep)
      clear hK K
      (try simp only [Act.put, List.setIfInBounds_toArray, List.set_cons_zero, List.set_cons_succ])
      refine wpAnyH_ready (rs := [18]) (by kernel_rfl) (by simp) ?_
      refine AllReadyH.cons (o := ⟨some 37, _, _, _, _, _⟩) rfl (fun K hK => ?_) ?_
      (refine step_append_sl rfl _ _ _ rfl elB (base := B2 + 1) (v := v) rfl ((((Own.ch hown ((Ch.refl [] wr).drew) (by simp)).ch0' hc4)).ch ((Ch.refl [] w4).alloc _) (by simp)) rfl (Sl.one w4 3 45 [.bool xn, .string y.name, .slice a5 y.args.length c5] rfl (by simp [Value.oneCell'])) (by have := HCK.out; simp; omega) (by have := hc4.size; simp at this; simp; omega) ?_; intro v6 w6 ho6 hc6 hat6 hn6; clear hn6; obtain ⟨a7, c7, rfl⟩ := ho6.form'; have hr56 := (hr54.alloc (.cells #[.bool xn, .string y.name, .slice a5 y.args.length c5] 45)).ch hc6 (by intro hm; cases hvo : v.ownBlock with | none => rw [hvo] at hm; cases hm | some g6 => rw [hvo] at hm; have := (HLV.out g6 hvo).1; simp at hm; omega); have x6 := hr56.cell 2; have y6 := hr56.frozen 2; have hnm : ∀ g, g ≤ w.heap.size → g ∉ v.ownBlock.toList := (fun g hg hm => by cases hvo : v.ownBlock with | none => rw [hvo] at hm; cases hm | some g6 => rw [hvo] at hm; have := (HLV.out g6 hvo).1; simp at hm; omega); have hcA5 : Ch [] wr (w4.alloc (.cells #[.bool xn, .string y.name, .slice a5 y.args.length c5] 45)) := (((Ch.refl [] wr).drew).trans hc4).alloc _; have e0 := cell_ch (cell_ch z2 hcA5 (by simp)) hc6 (hnm _ (Nat.le_refl _)); have e1 := cell_ch (cell_ch c0 hcA5 (by simp)) hc6 (hnm _ (by have := HPB.out; simp; omega)); have e2 := cell_ch (cell_ch c1 hcA5 (by simp)) hc6 (hnm _ (by have := HPB.out; simp; omega)); have e3 := cell_ch (cell_ch c2 hcA5 (by simp)) hc6 (hnm _ (by have := HPB.out; simp; omega)); clear hnm hcA5)
      refine hK.out _ _ ?_ (fun hHeld => ?_)
      focus ((try dsimp only); go_keep)
      clear hK K
      (try simp only [Act.put, List.setIfInBounds_toArray, List.set_cons_zero, List.set_cons_succ])
      refine wpAnyH_take (i := 19) (oi := ⟨some 38, _, _, _, _, _⟩) (v := ?_) rfl (by kernel_rfl) (by kernel_rfl) (by kernel_rfl) (fun _ _ _ h => h) (Or.inl ⟨by rfl, ?_⟩) (by assumption) ?_
      rotate_left
      focus (intro wq hSw; (try dsimp only at hSw); go_simp; (try with_reducible rfl); done)
      (try simp only [Act.put, List.setIfInBounds_toArray, List.set_cons_zero, List.set_cons_succ])
      refine wpAnyH_ready (rs := [20]) (by kernel_rfl) (by simp) ?_
      refine AllReadyH.cons (o := ⟨none, _, _, _, _, _⟩) rfl (fun K hK => ?_) ?_
      go_simp
      refine hK.out _ _ ?_ (fun hHeld => ?_)
      focus ((try dsimp only); go_keep)
      clear hK K
      (try simp only [Act.put, List.setIfInBounds_toArray, List.set_cons_zero, List.set_cons_succ])
      refine wpAnyH_done (by kernel_rfl) ?_ _
      rotate_left
      exact AllReadyH.nil
      exact AllReadyH.nil
      exact AllReadyH.nil
      exact AllReadyH.nil
      exact AllReadyH.nil
      all_goals
        have hcA4 : Ch [] wr (w4.alloc (.cells #[.bool xn, .string y.name, .slice a5 y.args.length c5] 45)) := (((Ch.refl [] wr).drew).trans hc4).alloc _
        have hsz4 : wr.heap.size ≤ w4.heap.size := hc4.size
        have hlv6 : ∀ b, b ∈ v.ownBlock.toList → B2 + 1 ≤ b := by
          intro b hb
          cases hvo : v.ownBlock with
          | none => rw [hvo] at hb; cases hb
          | some g6 => rw [hvo] at hb; simp at hb; subst hb; exact (HLV.out b hvo).1
        have hliA : ∀ (i : Nat) (cs : List Value) (x : Li), css[i]? = some cs → (body'.take k)[i]? = some x → LiR (fun b => B2 + 1 ≤ b ∧ v.ownBlock ≠ some b) (w4.alloc (.cells #[.bool xn, .string y.name, .slice a5 y.args.length c5] 45)) x cs :=
          fun i cs x h4 h5 => imp_li _ _ _ _ _ _ hcA4.size (fun b hb hp => ⟨hp, hcA4.block b hb (by simp)⟩) (hli i cs x h4 h5)
        have hvaA : SlT (fun b => B2 + 1 ≤ b ∧ v.ownBlock ≠ some b) (w4.alloc (.cells #[.bool xn, .string y.name, .slice a5 y.args.length c5] 45)) (.slice a5 y.args.length c5) y.args :=
          (hva.ch0 ((Ch.refl _ _).alloc _)).weak fun b _ hb => ⟨by have : wr.heap.size ≤ b := hb; omega, fun e => by have := (HLV.out b e).2; have : wr.heap.size ≤ b := hb; omega⟩
        have hoT := OwnG.add (y := (⟨xn, y⟩ : Li)) imp_li HCL.out hliA ⟨_, rfl, hvaA⟩ hc6 hat6 ho6
        rw [← HTS.out] at hoT
        have hr06 := ((((Blk.drew hr0)).ch hc4 (by simp)).alloc (.cells #[.bool xn, .string y.name, .slice a5 y.args.length c5] 45)).ch hc6 (fun hm => by have := hlv6 _ hm; omega)
        have hr16 := ((((Blk.drew hr1)).ch hc4 (by simp)).alloc (.cells #[.bool xn, .string y.name, .slice a5 y.args.length c5] 45)).ch hc6 (fun hm => by have := hlv6 _ hm; omega)
        have hB6 : Ch [] w w6 := (hB.trans hcA4).step hc6 (fun x hx => .inr (by have := hlv6 _ hx; omega))
        have hv6 := (hv3.ch0 hcA4).ch hc6 (by intro b _ hb hm; have := hlv6 _ hm; omega)
        have hcS : Ch [B2] w6 (w6.setCell ⟨B2, 2, none⟩ (.slice a7 (css.length + 1) c7)) := (Ch.refl _ _).set (by simp) _
        have hlv7 : (css ++ [[Value.bool xn, Value.string y.name, Value.slice a5 y.args.length c5]]).length = css.length + 1 := by simp
        rw [hlv7] at hoT
        have hoF := OwnG.ch imp_li hoT hcS (by simp)
        have hr0F := hr06.far (p := ⟨B2, 2, none⟩) (by simp; omega) (.slice a7 (css.length + 1) c7)
        have hr1F := hr16.far (p := ⟨B2, 2, none⟩) (by simp; omega) (.slice a7 (css.length + 1) c7)
        have hr2F : Blk (w6.setCell ⟨B2, 2, none⟩ (.slice a7 (css.length + 1) c7)) B2 27 #[.string nm', .slice a3 n3 c3, .slice a7 (css.length + 1) c7] := hr56.set_ 2 _
        have hvF := hv6.ch hcS (by intro b _ hb; simp; omega)
        have hBF : Ch [] w (w6.setCell ⟨B2, 2, none⟩ (.slice a7 (css.length + 1) c7)) := hB6.set (.inr (by simp; omega)) _
        have hszF : B2 + 1 ≤ (w6.setCell ⟨B2, 2, none⟩ (.slice a7 (css.length + 1) c7)).heap.size := by have h1 := hcA4.size; have h2 := hc6.size; have h3 := hcS.size; omega
        generalize (w6.setCell ⟨B2, 2, none⟩ (.slice a7 (css.length + 1) c7)) = wF at *
        generalize css.length + 1 = nF at *
        clear hoT hr56 hr54 x1 x4 x5 x6 y6 hat6 ho6 hvaA hliA hli hcA4 hva hown hcall c0 c1 c2 hcS hr16 hr06 hB6 hc4 hr04 d0
        go_wp2
        go_roundw
        case rel => exact ⟨k + 1, _, by omega, by go_num, hBF, hszF, hr0F, hr1F, hr2F, hvF, hoF⟩
        case measure => simp [intOf]; omega
    · rw [List.take_of_length_le (by have := HLE.out; omega)] at ho
      obtain ⟨av, cv, rfl⟩ := ho.len
      have y0 := hr2.cell 0
      have y1 := hr2.cell 1
      have y2 := hr2.cell 2
      have q0 := hr1.cell 0
      have q1 := hr1.cell 1
      have q2 := hr1.cell 2
      have f0 := hr1.frozen 0
      have f1 := hr1.frozen 1
      have f2 := hr1.frozen 2
      have j1 : decide (k < body.length) = false := decide_eq_false hlt
      subst hnm'
      go_wp2
      exact appRule_fin hr1 hB (by omega) _ (by rfl) (by rfl) (hv3.weak fun b _ hb => ⟨by omega, by omega⟩) ho (by omega)
end
end

section
section
open Go.RowKit

theorem elBd : Elem Tryz.prog 53 57 3 56 := Elem.mk' Tryz.underlying53 (by kernel_rfl) (by decide) (by decide)

theorem bnds_len (L : List ByteArray) : (bnds L).length = L.length := by simp [bnds]
theorem bnds_snoc (L : List ByteArray) (k : Nat) (h : k < L.length) : ((bnds L).take (k + 1)).map enB = ((bnds L).take k).map enB ++ [enB (L[k], qn k)] := by
  rw [take_snoc (bnds L) k (by rw [bnds_len]; exact h), List.map_append]
  simp [bnds]

theorem rename_fin {wz : World} {B1 : Nat} {z0 z1 z2 u0 u1 u2 : Value} {q : Bool} (hr : Blk wz B1 27 #[z0, z1, z2])
    (a : Act) (h4 : a.tmps.getD 4 undef = .pointer (some ⟨B1, 0, none⟩)) (h3 : a.tmps.getD 5 undef = .bool q) (h5 : a.defers = [])
    {Q : Ending → World → Prop} (hQ : ∀ wF, Ch [B1] wz wF → Q (.returned (.tuple #[.agg #[u0, u1, u2], .bool q])) wF) :
    bodyPost Tryz.prog Tryz.f7 Q .ret a
      (((wz.setCell ⟨B1, 0, none⟩ u0).setCell ⟨B1, 1, none⟩ u1).setCell ⟨B1, 2, none⟩ u2) := by
  have hbF : Blk (((wz.setCell ⟨B1, 0, none⟩ u0).setCell ⟨B1, 1, none⟩ u1).setCell ⟨B1, 2, none⟩ u2) B1 27 #[u0, u1, u2] := ((hr.set_ 0 _).set_ 1 _).set_ 2 _
  have hcF : Ch [B1] wz (((wz.setCell ⟨B1, 0, none⟩ u0).setCell ⟨B1, 1, none⟩ u1).setCell ⟨B1, 2, none⟩ u2) := (((Ch.refl _ _).set (by simp) _).set (by simp) _).set (by simp) _
  generalize (((wz.setCell ⟨B1, 0, none⟩ u0).setCell ⟨B1, 1, none⟩ u1).setCell ⟨B1, 2, none⟩ u2) = wF at *
  have hrun : (results Tryz.f7 a.tmps).run Tryz.prog wF = .ok (.tuple #[.agg #[u0, u1, u2], .bool q]) wF := by
    rw [results_cell_tmp (p := 4) (u := 5) (ty := 27) (by kernel_rfl), h4, h3]
    have := run_loadVar_row (P := Tryz.prog) _ B1 27 27 _ _ _ hbF Tryz.underlying27 rfl (by kernel_rfl)
    simp [asAddr, this]
  exact bodyPost_ret hrun h5 (hQ _ hcF)

def RenPost (r : Ru) (w : World) (e : Ending) (w' : World) : Prop :=
  (∃ a al c a' bl c', (∀ i, i < (varsL (atomsOf r)).length → varB (qn i) = true) ∧ e = .returned (.tuple #[.agg #[.string (renR r).head.name, .slice a al c, .slice a' bl c'], .bool true]) ∧
    SlT (fun b => w.heap.size ≤ b) w' (.slice a al c) (renR r).head.args ∧ SlLi (fun b => w.heap.size ≤ b) w' (.slice a' bl c') (renR r).body ∧ Ch [] w w') ∨
  (e = .returned (.tuple #[.agg #[.string ⟨#[]⟩, .slice none 0 0, .slice none 0 0], .bool false]) ∧ Ch [] w w')

set_option maxRecDepth 100000 in
set_option maxHeartbeats 8000000 in
theorem rename_ (r : Ru) (B b : Nat) (hO : RuOk B b r) (p : Nat → Prop) (vh vb : Value) (w : World) (hh : SlT p w vh r.head.args) (hb : SlLi p w vb r.body) (hn : (varsL (atomsOf r)).length ≤ 100000) :
    Calls Tryz.prog 7 #[.agg #[.string r.head.name, vh, vb], .string ⟨#[81]⟩] w (RenPost r w) := by
  have hvs := fun wz hz hz2 => refVars7_ r p vh vb wz B b (hh.ch0 hz) hz2 hO
  have HAP := Lib.hid (fun q (vs : Value) wz hz hz2 hs => appRule_ (bnds (varsL (atomsOf r))) r B b hO p q vh vb vs wz (hh.ch0 hz) hz2 hs)
  have HB := Lib.hid hb
  obtain ⟨ah, ch, rfl, _, _⟩ := hh.form
  obtain ⟨a, c, rfl, hlc, hmx⟩ := hb.form
  have HPO : Hid (∀ e w', RenPost r w e w' ↔ RenPost r w e w') := fun _ _ => Iff.rfl
  have HP2 : Hid (∀ w' a al c a' bl c', (∀ i, i < (varsL (atomsOf r)).length → varB (qn i) = true) → SlT (fun b => w.heap.size ≤ b) w' (.slice a al c) (subR (lkF (bnds (varsL (atomsOf r)))) r).head.args → SlLi (fun b => w.heap.size ≤ b) w' (.slice a' bl c') (subR (lkF (bnds (varsL (atomsOf r)))) r).body → Ch [] w w' →
      RenPost r w (.returned (.tuple #[.agg #[.string (subR (lkF (bnds (varsL (atomsOf r)))) r).head.name, .slice a al c, .slice a' bl c'], .bool true])) w') := fun w' a al c a' bl c' h1 h2 h3 h4 => .inl ⟨a, al, c, a', bl, c', h1, rfl, h2, h3, h4⟩
  have HP3 : Hid (∀ w', Ch [] w w' → RenPost r w (.returned (.tuple #[.agg #[.string ⟨#[]⟩, .slice none 0 0, .slice none 0 0], .bool false])) w') := fun w' h => .inr ⟨rfl, h⟩
  generalize RenPost r w = Q at *
  clear HPO
  generalize subR (lkF (bnds (varsL (atomsOf r)))) r = x at *
  generalize varsL (atomsOf r) = L at *
  generalize hal : r.head.args.length = al at *
  generalize hbl : r.body.length = bl at *
  clear hal hbl
  generalize r.head.name = nm at *
  have g0 := (Blk.new w 27 #[.string nm, .slice ah al ch, .slice a bl c]).alloc (.cells #[.string ⟨#[]⟩, .slice none 0 0, .slice none 0 0] 27)
  have g1 : Blk ((w.alloc (.cells #[.string nm, .slice ah al ch, .slice a bl c] 27)).alloc (.cells #[.string ⟨#[]⟩, .slice none 0 0, .slice none 0 0] 27)) (w.heap.size + 1) 27 #[.string ⟨#[]⟩, .slice none 0 0, .slice none 0 0] := Blk.new' _ _ _ _ (by simp)
  have hcA : Ch [] w ((w.alloc (.cells #[.string nm, .slice ah al ch, .slice a bl c] 27)).alloc (.cells #[.string ⟨#[]⟩, .slice none 0 0, .slice none 0 0] 27)) := ((Ch.refl _ _).alloc _).alloc _
  generalize hwA : ((w.alloc (.cells #[.string nm, .slice ah al ch, .slice a bl c] 27)).alloc (.cells #[.string ⟨#[]⟩, .slice none 0 0, .slice none 0 0] 27)) = wA at *
  have x0 := g0.cell 0
  have x1 := g0.cell 1
  have x2 := g0.cell 2
  go_enter Tryz.func7, Tryz.ntmps7
  go_wp2_with (go_at_call 20; refine (hvs wA hcA (HB.out.ch0 hcA)).mono ?_; rintro e w3 ⟨v3, rfl, ho3, hc3⟩; clear hvs x0 x1 x2)
  have hlL := ho3.sl.len
  simp only [List.length_map] at hlL
  unfold maxLen at hlL
  have hsL : SlS (fun b => b < w3.heap.size) w3 v3 L := ho3.sl.weak (fun b hb _ => hb)
  obtain ⟨aL, cL, rfl, hcL, hmL⟩ := hsL.form
  unfold maxLen at hmL
  have HS3 := Lib.hid hsL
  have HG0 := Lib.hid (g0.ch hc3 (by simp))
  have HG1 := Lib.hid (g1.ch hc3 (by simp))
  have HC3 := Lib.hid (hcA.trans hc3)
  have HZ : Hid (w.heap.size + 1 < w3.heap.size) := (HG1.out).lt
  have HDN := Lib.hid (decB_size)
  clear hsL ho3 hc3 hcA g0 g1
  go_loopw [7, 8, 9] (fun sv i _ wr => ∃ k : Nat, k ≤ L.length ∧ i = .int .i64 k ∧ Ch [] w3 wr ∧ Own wr w3.heap.size 57 3 sv (((bnds L).take k).map enB) ∧ Hid (∀ j, j < k → varB (qn j) = true)) (fun _ i _ _ => L.length - (intOf i).toNat)
  case atStart => exact ⟨0, Nat.zero_le _, rfl, Ch.refl _ _, Own.nil _ _ _ _, fun j h => absurd h (Nat.not_lt_zero _)⟩
  case round =>
    obtain ⟨k, hk, rfl, hB, hown, HN⟩ := hrel
    have hcA := HC3.out.trans hB
    have hr0 := HG0.out.ch hB (by simp)
    have hr1 := HG1.out.ch hB (by simp)
    by_cases hlt : k < L.length
    · have j1 : decide (k < L.length) = true := decide_eq_true hlt
      obtain ⟨bL, oL, rfl, hp, cl⟩ := (HS3.out.ch0 hB).at_ hlt
      have HSN := Lib.hid (bnds_snoc L k hlt)
      have HCL : Hid ((((bnds L).take k).map enB).length = k) := by
        have := bnds_len L
        unfold Hid; rw [List.length_map, List.length_take]; omega
      have hdec := decimal_ (k + 1) (by omega) wr
      have hsz := HDN.out (k + 1)
      have hq : qn k = ⟨#[81]⟩ ++ decB (k + 1) := rfl
      have hsq : (⟨#[81]⟩ ++ decB (k + 1) : ByteArray).size = 1 + (decB (k + 1)).size := by rw [ByteArray.size_append]; rfl
      have hvar := fun wz => ref01Variable (⟨#[81]⟩ ++ decB (k + 1)) wz (by rw [hsq]; unfold maxLen; omega)
      have hs1 : ¬ 9223372036854775807 < 1 + (decB (k + 1)).size := by omega
      have HQ := Lib.hid hq; clear hq
      clear hsq
      have HU : Hid (varB (qn k) = true → ∀ j, j < k + 1 → varB (qn j) = true) := fun hv j h1 => by
        rcases Nat.lt_succ_iff_lt_or_eq.1 h1 with h2 | h2
        · exact HN.out j h2
        · subst h2; exact hv
      rw [HQ.out] at HU HSN
      generalize decB (k + 1) = D at *
      obtain ⟨css, hcss⟩ : ∃ css, css = ((bnds L).take k).map enB := ⟨_, rfl⟩
      rw [← hcss] at hown HSN HCL
      clear hcss
      generalize L[k] = nk at *
      cases hv : varB (⟨#[81]⟩ ++ D) with
      | false =>
        simp only [hv] at hvar
        clear hv HU HSN
        have f0 := hr1.frozen 0
        have f1 := hr1.frozen 1
        have f2 := hr1.frozen 2
        go_wp2_with (first
          | (go_at_call 21; refine hdec.mono ?_; rintro e w4 ⟨rfl, hc4⟩; clear hdec)
          | (go_at_call 22; refine (hvar _).mono ?_; rintro e w5 ⟨rfl, rfl⟩; clear hvar; have k1 := hr1.ch hc4 (by simp); have y0 := k1.cell 0; have y1 := k1.cell 1; have y2 := k1.cell 2; have f0 := k1.frozen 0; have f1 := k1.frozen 1; have f2 := k1.frozen 2))
        refine rename_fin k1 _ (by rfl) (by rfl) (by rfl) (fun wF hF => HP3.out wF ?_)
        exact (hcA.trans hc4).step hF (by simp)
      | true =>
        simp only [hv] at hvar
        have HX := Lib.hid (HU.out hv)
        clear hv HU
        go_wp2_with (first
          | (go_at_call 21; refine hdec.mono ?_; rintro e w4 ⟨rfl, hc4⟩; clear hdec)
          | (go_at_call 22; refine (hvar _).mono ?_; rintro e w5 ⟨rfl, rfl⟩; clear hvar; have cl4 := cell_ch (S := []) cl hc4 (by simp))
          | (at_builtin; refine wpList_append_sl rfl _ _ _ rfl elBd (base := w3.heap.size) (v := u7) (css := css) rfl ((hown.ch0' hc4).ch0' ((Ch.refl [] w4).alloc _)) rfl (Sl.one w4 3 57 [.string nk, .string (⟨#[81]⟩ ++ D), .slice none 0 0] rfl (by simp [Value.oneCell'])) (by have := HCL.out; simp; omega) (by have := hB.size; have := hc4.size; simp; omega) ?_; intro v6 w6 ho6 hc6 hat6 hn6; clear hn6))
        have hoT : Own w6 w3.heap.size 57 3 v6 (((bnds L).take (k + 1)).map enB) := by
          rw [HSN.out]; exact ho6
        have hB6 : Ch [] w3 w6 := ((hB.trans hc4).alloc _).step hc6 (fun x hx => .inr (by
          cases hvo : u7.ownBlock with
          | none => rw [hvo] at hx; cases hx
          | some g => rw [hvo] at hx; simp at hx; subst hx; exact (hown.lt hvo).1))
        go_wp2
        go_roundw
        case rel => exact ⟨k + 1, by omega, by go_num, hB6, hoT, HX⟩
        case measure => simp [intOf]; omega
    · have j1 : decide (k < L.length) = false := decide_eq_false hlt
      rw [List.take_of_length_le (by rw [bnds_len]; omega)] at hown
      have HQ := Lib.hid (show ∀ i, i < L.length → varB (qn i) = true from fun i hi => HN.out i (by omega))
      have hs := hown.sl
      have hap := HAP.out _ _ wr hcA (HB.out.ch0 hcA) hs
      have x0 := hr0.cell 0
      have x1 := hr0.cell 1
      have x2 := hr0.cell 2
      go_wp2_with (go_at_call 23; refine hap.mono ?_; rintro e w5 ⟨va, vb, rfl, ha, hl, hc5⟩; clear hap; obtain ⟨a5, c5, rfl, _, _⟩ := ha.form; obtain ⟨a6, c6, rfl, _, _⟩ := hl.form; have k1 := hr1.ch hc5 (by simp); have y0 := k1.cell 0; have y1 := k1.cell 1; have y2 := k1.cell 2; have f0 := k1.frozen 0; have f1 := k1.frozen 1; have f2 := k1.frozen 2)
      have hz := hcA.size
      have hz3 := HZ.out
      have hz4 := hB.size
      refine rename_fin k1 _ (by rfl) (by rfl) (by rfl) ?_
      intro wF hF
      refine HP2.out wF _ _ _ _ _ _ HQ.out ?_ ?_ ?_
      · exact (ha.ch hF (by intro b _ hb; simp; omega)).weak (fun b _ hb => by omega)
      · exact (hl.ch hF (by intro b _ hb; simp; omega)).weak (fun b _ hb => by omega)
      · exact (hcA.trans hc5).step hF (by simp)
end
end

section
section
open Go.RowKit

theorem fewB_vars {r : Ru} (h : fewB r = true) : (varsL (atomsOf r)).length ≤ 100000 := by
  simp only [fewB, Bool.and_eq_true, decide_eq_true_eq, List.all_eq_true] at h
  obtain ⟨h1, h2, h3⟩ := h
  have hz : ∀ t ∈ atomsOf r, t.sz ≤ 60 := fun t ht => by
    simp only [atomsOf, List.mem_cons, List.mem_map] at ht
    rcases ht with rfl | ⟨x, hx, rfl⟩
    · exact smB_sz h2
    · exact smB_sz (h3 x hx)
  have h4 := szs_mul 60 (atomsOf r) hz
  have h5 := lvsL_szs (atomsOf r)
  have h6 := addV_len (lvsL (atomsOf r)) []
  have h7 := atomsOf_len r
  have h8 : (atomsOf r).length ≤ 13 := by omega
  have h9 : (atomsOf r).length * 60 ≤ 13 * 60 := Nat.mul_le_mul_right _ h8
  unfold varsL
  simp only [List.length_nil] at h6
  omega

set_option maxRecDepth 100000 in
set_option maxHeartbeats 8000000 in
theorem lawRenamed_ (r : Ru) (p : Nat → Prop) (vh vb : Value) (w : World) (hK : KwAt w) (hh : SlT p w vh r.head.args) (hb : SlLi p w vb r.body) (hN : NiceR reachBytes maxLen r) :
    Calls Tryz.prog 3 #[.agg #[.string r.head.name, vh, vb]] w fun e w' => e = .returned (.bool true) ∧ Ch [] w w' := by
  have hfew := fun wz (hz : Ch [] w wz) => few_ r p vh vb wz (hh.ch0 hz) (hb.ch0 hz)
  have HOK := Lib.hid (show fewB r = true → RuOk reachBytes maxLen r ∧ (varsL (atomsOf r)).length ≤ 100000 from fun h => ⟨few_ok h hN, fewB_vars h⟩)
  clear hN
  have hc1 := Lib.hid (fun (hO : RuOk reachBytes maxLen r) wz (hz : Ch [] w wz) => chRule_ r p vh vb wz reachBytes maxLen (hK.ch hz) (hh.ch0 hz) (hb.ch0 hz) hO)
  have hc2 := Lib.hid (fun (hO : RuOk reachBytes maxLen r) (hq : ∀ i, i < (varsL (atomsOf r)).length → varB (qn i) = true) (q : Nat → Prop) (va vc : Value) wz (hz : Ch [] w wz) (ha : SlT q wz va (renR r).head.args) (hl : SlLi q wz vc (renR r).body) => by
    have := chRule_ (renR r) q va vc wz reachBytes maxLen (hK.ch hz) ha hl (ruOk_ren hO (by decide) hq)
    rw [ruleE_ren r hq] at this
    exact this)
  have hrn := Lib.hid (fun (hO : RuOk reachBytes maxLen r) hn wz (hz : Ch [] w wz) => rename_ r reachBytes maxLen hO p vh vb wz (hh.ch0 hz) (hb.ch0 hz) hn)
  have hc3 := fun wz (hz : Ch [] w wz) => law11awake wz (hK.ch hz)
  unfold RenPost at hrn
  obtain ⟨ah, ch, rfl, _, _⟩ := hh.form
  obtain ⟨a, c, rfl, hlc, hmx⟩ := hb.form
  clear hh hb
  generalize hal : r.head.args.length = al at *
  generalize hbl : r.body.length = bl at *
  clear hal hbl
  have hbx := Blk.new w 27 #[.string r.head.name, .slice ah al ch, .slice a bl c]
  have hcA : Ch [] w (w.alloc (.cells #[.string r.head.name, .slice ah al ch, .slice a bl c] 27)) := (Ch.refl _ _).alloc _
  generalize hwA : (w.alloc (.cells #[.string r.head.name, .slice ah al ch, .slice a bl c] 27)) = wA at *
  have b0 := hbx.cell 0
  have b1 := hbx.cell 1
  have b2 := hbx.cell 2
  cases hf : fewB r with
  | false =>
    rw [hf] at hfew
    clear HOK hc1 hc2 hrn
    go_enter Tryz.func3, Tryz.ntmps3
    go_wp2_with (first
      | (go_at_call 5; refine (hfew _ hcA).mono ?_; rintro e w1 ⟨rfl, hd1⟩; clear hfew)
      | (go_at_call 6; refine (hc3 _ (hcA.trans hd1)).mono ?_; rintro e w2 ⟨rfl, hd2⟩))
    go_ret
    exact ⟨rfl, (hcA.trans hd1).trans hd2⟩
  | true =>
    obtain ⟨hO, hn⟩ := HOK.out hf
    rw [hf] at hfew
    have hr1 := hc1.out hO
    have HR2 := Lib.hid (hc2.out hO)
    have HRN := Lib.hid (hrn.out hO hn)
    clear hf HOK hc1 hc2 hO hn hrn
    generalize ruleE r = E at *
    generalize (renR r).head.name = nmx at *
    generalize (renR r).head.args = agx at *
    generalize (renR r).body = bdx at *
    generalize r.head.name = nm at *
    generalize (varsL (atomsOf r)).length = nv at *
    go_enter Tryz.func3, Tryz.ntmps3
    go_wp2_with (first
      | (go_at_call 5; refine (hfew _ hcA).mono ?_; rintro e w1 ⟨rfl, hd1⟩; clear hfew; have hb1 := hbx.ch hd1 (by simp); have y0 := hb1.cell 0; have y1 := hb1.cell 1; have y2 := hb1.cell 2))
    refine (HRN.out _ (hcA.trans hd1)).mono ?_
    intro e w2 hpost
    rcases hpost with ⟨a5, al5, c5, a6, bl6, c6, hq, rfl, ht, hl, hc2⟩ | ⟨rfl, hc2⟩
    · have k1 := Blk.new w2 27 #[.string nmx, .slice a5 al5 c5, .slice a6 bl6 c6]
      have HQ := Lib.hid hq; clear hq
      have hb2 := (hb1.ch hc2 (by simp)).alloc (.cells #[.string nmx, .slice a5 al5 c5, .slice a6 bl6 c6] 27)
      have hcN := ((hcA.trans hd1).trans hc2).alloc (.cells #[.string nmx, .slice a5 al5 c5, .slice a6 bl6 c6] 27)
      have htN := ht.ch0 ((Ch.refl [] w2).alloc (.cells #[.string nmx, .slice a5 al5 c5, .slice a6 bl6 c6] 27))
      have hlN := hl.ch0 ((Ch.refl [] w2).alloc (.cells #[.string nmx, .slice a5 al5 c5, .slice a6 bl6 c6] 27))
      go_wp2
      generalize (w2.alloc (.cells #[.string nmx, .slice a5 al5 c5, .slice a6 bl6 c6] 27)) = wN at *
      have l0 := Later.cell (hb2.cell 0)
      have l1 := Later.cell (hb2.cell 1)
      have l2 := Later.cell (hb2.cell 2)
      have m0 := Later.cell (k1.cell 0)
      have m1 := Later.cell (k1.cell 1)
      have m2 := Later.cell (k1.cell 2)
      have q1 := fun y : Later wN => later_call (hr1 y.w (hcN.trans y.ch))
      have q2 := fun y : Later wN => later_call (HR2.out HQ.out _ _ _ y.w (hcN.trans y.ch) (htN.ch0 y.ch) (hlN.ch0 y.ch))
      have q3 := fun y : Later wN => later_call (hc3 y.w (hcN.trans y.ch))
      have e1 : (E == E) = true := by simp
      clear hr1 hc3 y0 y1 y2 b0 b1 b2
      refine wp_region_later (by kernel_rfl) (lexB_of (by kernel_rfl)) ?_
      repeat (go_big_quiet_step (first | ((go_at_call_of 8 nm; with_reducible exact q1 _)) | ((go_at_call_of 8 nmx; with_reducible exact q2 _)) | ((go_at_call 6; with_reducible exact q3 _))))
      refine wpQuiet_nil ?_
      intro w3 hw3
      go_wp2
      refine bodyPost_ret (v := .bool true) (by simp [results, Tryz.results3, go_sem]) rfl ⟨rfl, hcN.trans hw3⟩
    · have hcN := ((hcA.trans hd1).trans hc2).alloc (.cells #[.string ⟨#[]⟩, .slice none 0 0, .slice none 0 0] 27)
      go_wp2_with (go_at_call 6; refine (hc3 _ hcN).mono ?_; rintro e w3 ⟨rfl, hd3⟩)
      go_ret
      exact ⟨rfl, hcN.trans hd3⟩
end
end
end Go.Proofs.YtaaomocodkpmfaaGreatDoor
