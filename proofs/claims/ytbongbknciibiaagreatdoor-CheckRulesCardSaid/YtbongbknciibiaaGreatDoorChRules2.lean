
/-
  The contracts of the reference's Each and arities (of layer 11).
  law11.CheckRules: the reference's Each, depends and Rules, and the law for every description that can be read.
  The contract of the reference's Rules (of layer 11); printed by wip/gen/refrules.py.
  law11.CheckRules: for every description that can be read.
-/
import Derived.Test.YtbongbknciibiaaGreatDoorChFew
import Derived.Test.YtbongbknciibiaaGreatDoorChRolesR
import Derived.Test.YtbongbknciibiaaGreatDoorStrRef
namespace Go.Proofs.YtbongbknciibiaaGreatDoor

section
open Go.RowKit

theorem row_at2 {p q : Nat → Prop} {w w' : World} {a : Option Addr} {n c i : Nat} {ts : List Tm} {css : List (List Value)} (h1 : Sl q w' 2 (.slice a n c) css) (h2 : TmsR p w ts css) (hi : i < ts.length) : ∃ b o a' c', a = some ⟨b, o, none⟩ ∧ (q b ∧ b < w'.heap.size) ∧
    w'.cell? ⟨b, o + i * 2, none⟩ = some (.string ts[i].name) ∧ w'.cell? ⟨b, o + i * 2 + 1, none⟩ = some (.slice a' ts[i].args.length c') ∧ SlT p w (.slice a' ts[i].args.length c') ts[i].args := by
  have hi' : i < css.length := by rw [h2.len]; exact hi
  obtain ⟨b, o, rfl, hp, hc⟩ := Sl.at_ h1 (List.getElem?_eq_getElem hi')
  have hr := h2.get (List.getElem?_eq_getElem hi) (List.getElem?_eq_getElem hi')
  generalize ts[i] = t at hr ⊢
  obtain ⟨nm, ags⟩ := t
  simp only [TmR] at hr
  obtain ⟨v, css', e, hv, hr⟩ := hr
  have hT : SlT p w v ags := ⟨css', hv, hr⟩
  obtain ⟨a', c', rfl, _⟩ := hT.form
  rw [e] at hc
  exact ⟨b, o, a', c', rfl, hp, by simpa [Tm.name] using hc 0 _ rfl, by simpa [Tm.args, Nat.add_assoc] using hc 1 _ rfl, hT⟩
def conf1 (y x : Tm) : Bool := decide (y.name = x.name) && !decide (y.args.length = x.args.length)
theorem confl_of_at {M : List Tm} {x : Tm} (n : Nat) (h : n < M.length) (hc : conf1 M[n] x = true) : confl M x = true := List.any_eq_true.2 ⟨_, List.getElem_mem h, hc⟩
theorem confl_of_none {M : List Tm} {x : Tm} (hn : ∀ i (hi : i < M.length), conf1 M[i] x = false) : confl M x = false := by
  rw [confl, List.any_eq_false]
  intro t ht
  obtain ⟨j, hj, rfl⟩ := List.getElem_of_mem ht
  have := hn j hj
  unfold conf1 at this
  rw [this]; simp
theorem flatA_len (l : List Ru) (hb : ∀ r ∈ l, r.body.length ≤ 100000) : (l.flatMap atomsOf).length ≤ l.length * 100001 := by
  induction l with
  | nil => simp
  | cons r l ih =>
    have h1 := hb r (by simp)
    have h2 := ih (fun r hr => hb r (by simp [hr]))
    rw [List.flatMap_cons, List.length_append, atomsOf_len, List.length_cons]
    omega
theorem ruleConf_drop (P L1 : List Tm) (j : Nat) (h : j < L1.length) : ruleConf (P ++ L1.take j) (L1.drop j) = (confl (P ++ L1.take j) L1[j] || ruleConf (P ++ L1.take (j + 1)) (L1.drop (j + 1))) := by
  rw [List.drop_eq_getElem_cons h, ruleConf, take_snoc L1 j h, List.append_assoc]
theorem diffGo_drop (P : List Tm) (l : List Ru) (k : Nat) (h : k < l.length) : diffGo P k (l.drop k) = if ruleConf P (atomsOf l[k]) = true then (k : Int) else diffGo (P ++ atomsOf l[k]) (k + 1) (l.drop (k + 1)) := by
  rw [List.drop_eq_getElem_cons h, diffGo]

set_option maxRecDepth 100000 in
set_option maxHeartbeats 8000000 in
theorem refArities_ (p : Nat → Prop) (v : Value) (l : List Ru) (w : World) (B b : Nat) (h : SlR p w v l) (hO : ∀ r ∈ l, RuOk B b r) (hlen : l.length ≤ 1000) :
    Calls Tryz.prog 42 #[v] w fun e w' => e = .returned (.int .i64 (diffOf l)) ∧ Ch [] w w' := by
  obtain ⟨a, c, rfl, hlc, hm⟩ := h.form
  unfold maxLen at hm
  have h0 : SlR (fun x => p x ∧ x < w.heap.size) w (.slice a l.length c) l := h.weak fun x hx hp => ⟨hp, hx⟩
  clear h
  have HBL : Hid (∀ k (hk : k < l.length), l[k].body.length ≤ 100000) := fun k hk => (hO _ (List.getElem_mem hk)).len
  have HTL : Hid (∀ k, ((l.take k).flatMap atomsOf).length ≤ 110000000) := fun k => by
    have h1 := flatA_len (l.take k) (fun r hr => (hO r (List.mem_of_mem_take hr)).len)
    have h2 : (l.take k).length ≤ 1000 := by rw [List.length_take]; omega
    have h3 := Nat.mul_le_mul_right 100001 h2
    omega
  clear hO
  have HD0 : Hid (diffOf l = diffGo [] 0 l) := rfl
  generalize diffOf l = D at *
  go_enter Tryz.func42, Tryz.ntmps42
  go_wp2
  go_loopw [3, 4, 5, 6, 7, 8] (fun mv i _ _ _ _ wr => ∃ (k : Nat) (css : List (List Value)), k ≤ l.length ∧ i = .int .i64 k ∧ Ch [] w wr ∧ Own wr w.heap.size 28 2 mv css ∧ TmsR (fun x => p x ∧ x < w.heap.size) w ((l.take k).flatMap atomsOf) css ∧ Hid (D = diffGo ((l.take k).flatMap atomsOf) k (l.drop k))) (fun _ i _ _ _ _ _ => l.length - (intOf i).toNat)
  case atStart => exact ⟨0, [], Nat.zero_le _, rfl, Ch.refl _ _, Own.nil _ _ _ _, by simp [TmsR], by simpa [Hid] using HD0.out⟩
  case round =>
    obtain ⟨k, css, hk, rfl, hB, hown, htm, HD⟩ := hrel
    by_cases hlt : k < l.length
    · obtain ⟨bb, o, a', c', a'', c'', rfl, hp, c0, c1, c2, hT, hL⟩ := h0.at_ hlt
      have HDG : Hid (D = if ruleConf ((l.take k).flatMap atomsOf) (atomsOf l[k]) = true then (k : Int) else diffGo ((l.take k).flatMap atomsOf ++ atomsOf l[k]) (k + 1) (l.drop (k + 1))) := by unfold Hid; rw [HD.out, diffGo_drop _ _ _ hlt]
      have HPS : Hid ((l.take (k + 1)).flatMap atomsOf = (l.take k).flatMap atomsOf ++ atomsOf l[k]) := by unfold Hid; rw [take_snoc l k hlt, List.flatMap_append]; simp
      have hbl := HBL.out k hlt
      have hT1 := HTL.out (k + 1)
      rw [HPS.out, List.length_append] at hT1
      have HAT : Hid (atomsOf l[k] = l[k].head :: l[k].body.map (·.atom)) := rfl
      have c0 := cell_ch c0 hB (by simp)
      have c1 := cell_ch c1 hB (by simp)
      have c2 := cell_ch c2 hB (by simp)
      have hRh := TmR.of hT
      have hcss : css.length = ((l.take k).flatMap atomsOf).length := htm.len
      have j1 : decide (k < l.length) = true := decide_eq_true hlt
      have i1 : (k : Int) < (l.length : Int) := by omega
      obtain ⟨P1, hP1⟩ : ∃ P1, (l.take (k + 1)).flatMap atomsOf = P1 := ⟨_, rfl⟩
      rw [hP1] at HPS
      have HP1 := Lib.hid hP1; clear hP1
      generalize (l.take k).flatMap atomsOf = P0 at *
      generalize atomsOf l[k] = L1 at *
      generalize l[k] = r at *
      obtain ⟨hd, body⟩ := r
      simp only at hbl HAT c0 c1 c2 hRh hL hT
      clear HD hT
      have HCS := Lib.hid hcss; clear hcss
      have hone := Own.one_ wr wr.heap.size 28 2 [.string hd.name, .slice a' hd.args.length c'] (Nat.le_refl _) rfl (by simp [Value.oneCell'])
      generalize hd.args.length = hl at *
      obtain ⟨S, hS⟩ : ∃ S, S = u3.ownBlock.toList := ⟨_, rfl⟩
      have HSS : Hid (∀ g ∈ S, w.heap.size ≤ g ∧ g < wr.heap.size) := fun g hg => hown.lt (by rw [hS] at hg; simpa using hg)
      have HS3 : Hid (∀ g, u3.ownBlock = some g → g ∈ S) := fun g hg => by rw [hS, hg]; simp
      clear hS
      go_wp2
      obtain ⟨wo, rfl⟩ : ∃ wo : World, wo = wr := ⟨_, rfl⟩
      go_loopw [5, 6] (fun av i wq => ∃ (j : Nat) (cs2 : List (List Value)), j ≤ body.length ∧ i = .int .i64 j ∧ Ch [] wo wq ∧ Own wq wo.heap.size 28 2 av cs2 ∧ TmsR (fun x => p x ∧ x < w.heap.size) w (hd :: (body.take j).map (·.atom)) cs2) (fun _ i _ => body.length - (intOf i).toNat)
      case atStart => exact ⟨0, _, Nat.zero_le _, rfl, (Ch.refl _ _).alloc _, hone, by simp only [List.take_zero, List.map_nil, TmsR]; exact ⟨_, [], rfl, hRh, rfl⟩⟩
      case round =>
        obtain ⟨j, cs2, hj, rfl, hB2, ho2, htm2⟩ := hrel
        have c2 := cell_ch c2 hB2 (by simp)
        by_cases hjt : j < body.length
        · obtain ⟨b2, o2, a5, c5, rfl, hp2, d0, d1, d2, hTx⟩ := hL.at_ hjt
          have hRx := TmR.of hTx
          have HTS := Lib.hid (take_snoc body j hjt)
          have hcl : cs2.length = j + 1 := by rw [TmsR.len htm2]; simp [Nat.min_eq_left hj]
          have HCL := Lib.hid hcl; clear hcl
          have d0 := cell_ch d0 (hB.trans hB2) (by simp)
          have d1 := cell_ch d1 (hB.trans hB2) (by simp)
          have d2 := cell_ch d2 (hB.trans hB2) (by simp)
          have j2 : decide (j < body.length) = true := decide_eq_true hjt
          have i2 : (j : Int) < (body.length : Int) := by omega
          have hszB := hB2.size
          generalize body[j] = x at *
          obtain ⟨xn, xa⟩ := x
          simp only at hRx d0 d1 d2 HTS hTx
          clear hTx
          generalize xa.args.length = xl at *
          go_wp2_with (at_builtin; refine wpList_append_sl rfl _ _ _ rfl elT (base := wo.heap.size) (v := u5) (css := cs2) rfl (ho2.ch0' ((Ch.refl [] wr).alloc _)) rfl (Sl.one wr 2 28 [.string xa.name, .slice a5 xl c5] rfl (by simp [Value.oneCell'])) (by have := HCL.out; simp; omega) (by simp; omega) ?_; intro v6 w6 ho6 hc6 hat6 hn6; clear hn6)
          go_roundw
          case rel =>
            refine ⟨j + 1, _, by omega, by go_num, (hB2.alloc _).step hc6 (fun y hy => ?_), ho6, ?_⟩
            · simp at hy; exact .inr (ho2.lt hy).1
            · rw [HTS.out, List.map_append, ← List.cons_append]; exact TmsR.snoc htm2 hRx
          case measure => simp [intOf]; omega
        · rw [List.take_of_length_le (by omega), ← HAT.out] at htm2
          have j2 : decide (j < body.length) = false := decide_eq_false hjt
          have hsl1 : Sl (fun g => g ∉ S) wr 2 u5 cs2 := ho2.sl.weak (fun x _ hx hm => by have := (HSS.out x hm).2; have := hx.1; omega)
          have hll : cs2.length = L1.length := htm2.len
          obtain ⟨a6, c6, rfl, hl6, hm6⟩ := Sl.form' hsl1
          rw [hll] at hsl1 hl6 ⊢
          unfold maxLen at hm6
          have hown2 := hown.ch0' hB2
          have hszB := hB2.size
          clear hll hL hRh hone ho2 c1 c0 HAT
          have HXD : Hid (ruleConf P0 L1 = true → D = k) := fun hx => by rw [HDG.out, if_pos hx]
          have HXN : Hid (ruleConf P0 L1 = false → D = diffGo P1 (k + 1) (l.drop (k + 1))) := fun hx => by rw [HDG.out, if_neg (by rw [hx]; simp), HPS.out]
          clear HDG
          go_wp2
          obtain ⟨w2, rfl⟩ : ∃ w2 : World, w2 = wr := ⟨_, rfl⟩
          go_loopw [3, 7, 8] (fun mv i _ wq => ∃ (j : Nat) (cs3 : List (List Value)), j ≤ L1.length ∧ i = .int .i64 j ∧ Ch S w2 wq ∧ Own wq w.heap.size 28 2 mv cs3 ∧ TmsR (fun x => p x ∧ x < w.heap.size) w (P0 ++ L1.take j) cs3 ∧ Hid (∀ g, mv.ownBlock = some g → g ∈ S ∨ w2.heap.size ≤ g) ∧ Hid (ruleConf P0 L1 = ruleConf (P0 ++ L1.take j) (L1.drop j))) (fun _ i _ _ => L1.length - (intOf i).toNat)
          case atStart => exact ⟨0, css, Nat.zero_le _, rfl, Ch.refl _ _, hown2, by simpa using htm, fun g hg => .inl (HS3.out g hg), by simp [Hid]⟩
          case round =>
            obtain ⟨j, cs3, hj, rfl, hB3, ho3, htm3, HOW, HRC⟩ := hrel
            by_cases hjt : j < L1.length
            · obtain ⟨b6, o6, a7, c7, rfl, hp6, d0, d1, hTx⟩ := row_at2 (hsl1.imp hB3.size (fun g hg hp => ⟨hp, hB3.block g hg hp⟩)) htm2 hjt
              have hRx := TmR.of hTx
              have HRD := Lib.hid (ruleConf_drop P0 L1 j hjt)
              have HTS := Lib.hid (take_snoc L1 j hjt)
              have hM3 : (P0 ++ L1.take j).length ≤ 110000000 := by rw [List.length_append, List.length_take]; omega
              have HM1 : Hid (P0 ++ L1.take (j + 1) = (P0 ++ L1.take j) ++ [L1[j]]) := by unfold Hid; rw [HTS.out, List.append_assoc]
              have hl3 : cs3.length = (P0 ++ L1.take j).length := htm3.len
              have hsl3 : Sl (fun _ => True) wr 2 u3 cs3 := ho3.sl.weak (fun _ _ _ => trivial)
              obtain ⟨a8, c8, rfl, hl8, hm8⟩ := Sl.form' hsl3
              rw [hl3] at hsl3 hl8 ⊢
              rw [hl3] at ho3 HOW
              unfold maxLen at hm8
              have HL3 := Lib.hid hl3; clear hl3
              have j3 : decide (j < L1.length) = true := decide_eq_true hjt
              have i3 : (j : Int) < (L1.length : Int) := by omega
              clear HTS hTx
              obtain ⟨M1, hM1⟩ : ∃ M1, P0 ++ L1.take (j + 1) = M1 := ⟨_, rfl⟩
              rw [hM1] at HRD HM1
              have HME := Lib.hid hM1; clear hM1
              generalize P0 ++ L1.take j = M at *
              generalize L1[j] = x at *
              go_wp2
              obtain ⟨w3, rfl⟩ : ∃ w3 : World, w3 = wr := ⟨_, rfl⟩
              go_loopw [8] (fun i wq => ∃ n : Nat, n ≤ M.length ∧ i = .int .i64 n ∧ Ch [] w3 wq ∧ Hid (∀ i (hi : i < M.length), i < n → conf1 M[i] x = false)) (fun i _ => M.length - (intOf i).toNat)
              case atStart => exact ⟨0, Nat.zero_le _, rfl, Ch.refl _ _, fun j _ h => absurd h (Nat.not_lt_zero _)⟩
              case round =>
                obtain ⟨n, hn, rfl, hB4, HN⟩ := hrel
                have hszB4 := hB4.size
                by_cases hnt : n < M.length
                · obtain ⟨b9, o9, a9, c9, rfl, hp9, e0, e1, _⟩ := row_at2 (hsl3.imp hB4.size (fun g hg hp => ⟨hp, hB4.block g hg (by simp)⟩)) htm3 hnt
                  have d0 := cell_ch d0 hB4 (by simp)
                  have d1 := cell_ch d1 hB4 (by simp)
                  have j4 : decide (n < M.length) = true := decide_eq_true hnt
                  have i4 : (n : Int) < (M.length : Int) := by omega
                  have HCA := Lib.hid (fun hc => confl_of_at (x := x) n hnt hc)
                  have HX : Hid (conf1 M[n] x = false → ∀ i (hi : i < M.length), i < n + 1 → conf1 M[i] x = false) := fun hq i hi h1 => by
                    rcases Nat.lt_succ_iff_lt_or_eq.1 h1 with h2 | h2
                    · exact HN.out i hi h2
                    · subst h2; exact hq
                  clear HN
                  generalize M[n] = y at *
                  by_cases hq1 : y.name = x.name
                  · have hq : (y.name.toList == x.name.toList) = true := by rw [beqS]; simpa using hq1
                    by_cases hq2 : y.args.length = x.args.length
                    · have hcf : conf1 y x = false := by unfold conf1; rw [decide_eq_true hq1, decide_eq_true hq2]; rfl
                      have hne : ((y.args.length : Int) != (x.args.length : Int)) = false := by rw [hq2]; simp
                      have HX2 := Lib.hid (HX.out hcf)
                      clear hcf HX hq1 hq2
                      go_wp2
                      go_quiet (fail)
                      go_wp2
                      go_roundw
                      case rel => exact ⟨n + 1, by omega, by go_num, hB4.drewN _, HX2⟩
                      case measure => simp [intOf]; omega
                    · have hcf : conf1 y x = true := by unfold conf1; rw [decide_eq_true hq1, decide_eq_false hq2]; rfl
                      have hne : ((y.args.length : Int) != (x.args.length : Int)) = true := by simp; omega
                      have HR : Hid (D = k) := HXD.out (by rw [HRC.out, HRD.out, HCA.out hcf]; rfl)
                      clear hcf HX hq1 hq2
                      go_wp2
                      go_quiet (fail)
                      go_wp2
                      go_ret
                      exact ⟨by rw [HR.out]; rfl, ((hB.trans hB2).step hB3 (fun g hg => .inr (HSS.out g hg).1)).trans (hB4.drewN _)⟩
                  · have hq : (y.name.toList == x.name.toList) = false := by rw [beqS]; simpa using hq1
                    have hcf : conf1 y x = false := by unfold conf1; rw [decide_eq_false hq1]; rfl
                    have HX2 := Lib.hid (HX.out hcf)
                    clear hcf HX hq1
                    go_wp2
                    go_quiet (fail)
                    go_wp2
                    go_roundw
                    case rel => exact ⟨n + 1, by omega, by go_num, hB4.drewN _, HX2⟩
                    case measure => simp [intOf]; omega
                · have j4 : decide (n < M.length) = false := decide_eq_false hnt
                  have HCN : Hid (confl M x = false) := confl_of_none (fun i hi => HN.out i hi (by omega))
                  have HR2 : Hid (ruleConf P0 L1 = ruleConf M1 (L1.drop (j + 1))) := by unfold Hid; rw [HRC.out, HRD.out, HCN.out]; rfl
                  have hszB3 := hB3.size
                  have hszB2 := hB2.size
                  have hszBB := hB.size
                  have d0 := cell_ch d0 hB4 (by simp)
                  have d1 := cell_ch d1 hB4 (by simp)
                  have ho3 := ho3.ch0' hB4
                  clear HRC HRD HCN HN
                  generalize x.args.length = xl at *
                  go_wp2_with (at_builtin; refine wpList_append_sl rfl _ _ _ rfl elT (base := w.heap.size) (v := .slice a8 M.length c8) (css := cs3) rfl (ho3.ch0' ((Ch.refl [] wr).alloc _)) rfl (Sl.one wr 2 28 [.string x.name, .slice a7 xl c7] rfl (by simp [Value.oneCell'])) (by have := HL3.out; simp; omega) (by simp; omega) ?_; intro v6 w6 ho6 hc6 hat6 hn6; clear hn6)
                  go_roundw
                  case rel =>
                    refine ⟨j + 1, _, by omega, by go_num, ((hB3.trans hB4.of_nil).alloc _).step hc6 (fun y hy => ?_), ho6, ?_, fun g hg => ?_, by unfold Hid; rw [HME.out]; exact HR2.out⟩
                    · exact HOW.out y (by simpa using hy)
                    · rw [HME.out, HM1.out]; exact TmsR.snoc htm3 hRx
                    · rcases hat6 with h6 | h6
                      · exact HOW.out g (by rw [← h6]; exact hg)
                      · rw [hg] at h6; injection h6 with h6; right; simp at h6; omega
                  case measure => simp [intOf]; omega
            · have hx : ruleConf P0 L1 = false := by rw [HRC.out, List.drop_eq_nil_of_le (by omega)]; rfl
              have HR := Lib.hid (HXN.out hx)
              have j3 : decide (j < L1.length) = false := decide_eq_false hjt
              have hBB := (hB.trans hB2).step hB3 (fun g hg => .inr (HSS.out g hg).1)
              rw [List.take_of_length_le (by omega), ← HPS.out, ← HP1.out] at htm3
              rw [Hid, ← HP1.out] at HR
              clear hx HRC HXN HXD
              go_wp2
              go_roundw
              case rel => exact ⟨k + 1, cs3, by omega, by go_num, hBB, ho3, htm3, HR⟩
              case measure => simp [intOf]; omega
    · have HR : Hid (D = -1) := by unfold Hid; rw [HD.out, List.drop_eq_nil_of_le (by omega)]; rfl
      have j1 : decide (k < l.length) = false := decide_eq_false hlt
      clear HD
      go_wp2
      go_ret
      exact ⟨by rw [HR.out]; rfl, hB⟩
end

section
open Go.RowKit

/-- what the reference's Each answers -/
def eachV (l : List Ru) : Int × Int :=
  if 128 < l.length then (128, 2)
  else match eachGo 0 l with
  | some x => (((x.1 : Nat) : Int), x.2)
  | none => (0, 0)
theorem eachGo_ne : ∀ (l : List Ru) (i : Nat) (x : Nat × Int), eachGo i l = some x → x.2 ≠ 0
  | [], _, _, h => by simp [eachGo] at h
  | r :: l, i, x, h => by
    unfold eachGo at h
    split at h
    · exact eachGo_ne l _ x h
    · rename_i h1
      injection h with h
      subst h
      exact h1
theorem eachV_ne {l : List Ru} (h : (eachV l).2 ≠ 0) : rulesE l = eachV l := by
  unfold rulesE eachV at *
  split at h
  · rename_i h1; rw [if_pos h1, if_pos h1]
  · rename_i h1
    rw [if_neg h1, if_neg h1]
    cases he : eachGo 0 l with
    | some x => rfl
    | none => rw [he] at h; exact absurd rfl h
theorem eachV_zero {l : List Ru} (h : (eachV l).2 = 0) : l.length ≤ 128 ∧ (∀ r ∈ l, ruleE r = 0) ∧ rulesE l = if 0 ≤ diffOf l then (diffOf l, 5) else if rolesBad l = true then (0, 8) else if depsB (edgesOf l) = true then (0, 9) else (0, strE (edgesOf l)) := by
  have hE : rulesE l = if 128 < l.length then (128, 2) else match eachGo 0 l with
    | some x => (((x.1 : Nat) : Int), x.2)
    | none => if 0 ≤ diffOf l then (diffOf l, 5) else if rolesBad l = true then (0, 8) else if depsB (edgesOf l) = true then (0, 9) else (0, strE (edgesOf l)) := rfl
  rw [hE]
  unfold eachV at h
  split at h
  · cases h
  · rename_i h1
    cases he : eachGo 0 l with
    | some x => rw [he] at h; exact absurd h (eachGo_ne l 0 x he)
    | none => exact ⟨by omega, (eachGo_none l 0).1 he, by rw [if_neg h1]⟩

set_option maxRecDepth 100000 in
set_option maxHeartbeats 4000000 in
theorem refEach_ (p : Nat → Prop) (v : Value) (l : List Ru) (w : World) (B b : Nat) (h : SlR p w v l) (hO : ∀ r ∈ l, RuOk B b r) :
    Calls Tryz.prog 41 #[v] w fun e w' => e = .returned (.tuple #[.int .i64 (eachV l).1, .int .i64 (eachV l).2]) ∧ Ch [] w w' := by
  have HE : Hid (eachV l = if 128 < l.length then (128, 2) else match eachGo 0 l with
    | some x => (((x.1 : Nat) : Int), x.2)
    | none => (0, 0)) := rfl
  have HO := Lib.hid hO; clear hO
  obtain ⟨a, c, rfl, hlc, hm⟩ := h.form
  unfold maxLen at hm
  by_cases hbig : 128 < l.length
  · have d1 : decide ((128 : Int) < (l.length : Int)) = true := decide_eq_true (by omega)
    have HX : Hid (eachV l = (128, 2)) := by unfold Hid; rw [HE.out, if_pos hbig]
    clear hbig HE
    go_enter Tryz.func41, Tryz.ntmps41
    go_wp2
    go_ret2
    exact ⟨by rw [HX.out]; rfl, Ch.refl _ _⟩
  · have d1 : decide ((128 : Int) < (l.length : Int)) = false := decide_eq_false (by omega)
    have HE2 : Hid (eachV l = match eachGo 0 l with
      | some x => (((x.1 : Nat) : Int), x.2)
      | none => (0, 0)) := by unfold Hid; rw [HE.out, if_neg hbig]
    clear hbig HE
    go_enter Tryz.func41, Tryz.ntmps41
    go_wp2
    go_loopw [4, 5] (fun i _ wr => ∃ k : Nat, k ≤ l.length ∧ i = .int .i64 k ∧ Ch [] w wr ∧ Hid (∀ j (hj : j < l.length), j < k → ruleE l[j] = 0)) (fun i _ _ => l.length - (intOf i).toNat)
    case atStart => exact ⟨0, Nat.zero_le _, rfl, Ch.refl _ _, fun j _ h => absurd h (Nat.not_lt_zero _)⟩
    case round =>
      obtain ⟨k, hk, rfl, hB, HN⟩ := hrel
      by_cases hlt : k < l.length
      · obtain ⟨bb, o, a', c', a'', c'', rfl, hp, c0, c1, c2, hT, hL⟩ := (h.ch0 hB).at_ hlt
        have hOk := HO.out _ (List.getElem_mem hlt)
        have HG0 := Lib.hid (show ruleE l[k] = 0 → ∀ j (hj : j < l.length), j < k + 1 → ruleE l[j] = 0 from fun h0 j hj h1 => by
          rcases Nat.lt_succ_iff_lt_or_eq.1 h1 with h2 | h2
          · exact HN.out j hj h2
          · subst h2; exact h0)
        have HG1 := Lib.hid (show ∀ q, ruleE l[k] = q → q ≠ 0 → eachV l = ((k : Int), q) from fun q hq h0 => by
          have := eachGo_at l 0 k hlt (fun j hj => HN.out j _ hj) (by rw [hq]; exact h0)
          rw [HE2.out, this, hq]
          simp)
        generalize l[k] = r at *
        have hcall := refRule_ r _ _ _ wr B b hT hL hOk
        clear hT hL hOk
        generalize ruleE r = q at *
        by_cases hz : q = 0
        · subst hz
          have HX := Lib.hid (HG0.out rfl)
          go_wp2_with (go_at_call 14; refine hcall.mono ?_; rintro e w2 ⟨rfl, hc2⟩; clear hcall)
          go_roundw
          case rel => exact ⟨k + 1, by omega, by go_num, hB.trans hc2, HX⟩
          case measure => simp [intOf]; omega
        · have e1 : (q != 0) = true := by simpa using hz
          have HX := Lib.hid (HG1.out q rfl hz)
          clear hz
          go_wp2_with (go_at_call 14; refine hcall.mono ?_; rintro e w2 ⟨rfl, hc2⟩; clear hcall)
          go_ret2
          exact ⟨by rw [HX.out]; rfl, hB.trans hc2⟩
      · have hall : ∀ r ∈ l, ruleE r = 0 := fun r hr => by
          obtain ⟨j, hj, rfl⟩ := List.getElem_of_mem hr
          exact HN.out j hj (by omega)
        have HX : Hid (eachV l = (0, 0)) := by unfold Hid; rw [HE2.out, (eachGo_none l 0).2 hall]
        clear hall HN HE2
        go_wp2
        go_ret2
        exact ⟨by rw [HX.out]; rfl, hB⟩

set_option maxRecDepth 100000 in
theorem refDepends_ (p : Nat → Prop) (v : Value) (es : List Ed) (f t : ByteArray) (w : World) (h : SlE p w v es) (hl : es.length ≤ 100000) :
    Calls Tryz.prog 44 #[v, .string f, .string t] w fun e w' => e = .returned (.bool (onB es f t)) ∧ Ch [] w w' := by
  have hr := ref09Reach p v es f w h hl
  have HB : Hid (onB es f t = hasS (reachOf es f) t) := rfl
  generalize onB es f t = R at *
  go_enter Tryz.func44, Tryz.ntmps44
  go_wp2_with (first
    | (go_at_call 85; refine hr.mono ?_; rintro e w1 ⟨v1, rfl, hs, hc1⟩; clear hr)
    | (go_at_call 76; refine (ref09Has _ _ _ t _ hs).mono ?_; rintro e w2 ⟨rfl, rfl⟩))
  go_ret
  exact ⟨by rw [HB.out]; rfl, hc1⟩
end

section
open Go.RowKit

set_option maxRecDepth 100000 in
set_option maxHeartbeats 8000000 in
theorem refRules_ (p : Nat → Prop) (v : Value) (l : List Ru) (w : World) (B b : Nat) (h : SlR p w v l) (hO : ∀ r ∈ l, RuOk B b r) (hlen : l.length ≤ 1000) :
    Calls Tryz.prog 17 #[v] w fun e w' => e = .returned (.tuple #[.int .i64 (rulesE l).1, .int .i64 (rulesE l).2]) ∧ Ch [] w w' := by
  have hea := fun wz (hz : Ch [] w wz) => refEach_ p v l wz B b (h.ch0 hz) hO
  have hdf := fun wz (hz : Ch [] w wz) => refArities_ p v l wz B b (h.ch0 hz) hO hlen
  have hro := fun wz (hz : Ch [] w wz) => refRoles_ p v l wz B b (h.ch0 hz) hO (by omega)
  have hch := fun wz (hz : Ch [] w wz) => refChance_ p v l wz B b (h.ch0 hz) hO (by omega)
  have hed := fun wz (hz : Ch [] w wz) (hf : Fit l) => ref09Edges p v l wz (h.ch0 hz) hf
  have hst := fun wz (hz : Ch [] w wz) (hf : Fit l) => ref10Levels p v l wz (h.ch0 hz) hf
  obtain ⟨a, c, rfl, hlc, hm⟩ := h.form
  unfold maxLen at hm
  clear h hO hlen
  by_cases hz0 : (eachV l).2 = 0
  case neg =>
    have HX := Lib.hid (eachV_ne hz0)
    have e1 : ((eachV l).2 != 0) = true := by simpa using hz0
    clear hz0 hdf hro hch hed hst
    obtain ⟨q1, h1⟩ : ∃ q1, (eachV l).1 = q1 := ⟨_, rfl⟩
    obtain ⟨q2, h2⟩ : ∃ q2, (eachV l).2 = q2 := ⟨_, rfl⟩
    rw [h1, h2] at hea
    rw [h2] at e1
    have HR : Hid (rulesE l = (q1, q2)) := by unfold Hid; rw [HX.out, ← h1, ← h2]
    clear h1 h2 HX
    generalize rulesE l = R at *
    obtain ⟨R1, R2⟩ := R
    obtain ⟨rfl, rfl⟩ : R1 = q1 ∧ R2 = q2 := by have := HR.out; injection this with a b; exact ⟨a, b⟩
    clear HR
    go_enter Tryz.func17, Tryz.ntmps17
    go_wp2_with (go_at_call 41; refine (hea _ (Ch.refl _ _)).mono ?_; rintro e w1 ⟨rfl, hc1⟩; clear hea)
    go_ret2
    exact ⟨rfl, hc1⟩
  case pos =>
    obtain ⟨hl128, hall, hE3⟩ := eachV_zero hz0
    have hfit : Fit l := ⟨by omega, fun r hr => by have := ruleE_body (hall r hr); omega⟩
    have hel : (edgesOf l).length ≤ 100000 := by have := edgesOf_len hfit l.length; rwa [List.take_length] at this
    have hed := fun wz hz => hed wz hz hfit
    have hst := fun wz hz => hst wz hz hfit
    have HE3 := Lib.hid hE3
    clear hE3 hall hfit
    have hdp := fun (f t : ByteArray) (ve : Value) (q : Nat → Prop) wz (hs : SlE q wz ve (edgesOf l)) => refDepends_ q ve (edgesOf l) f t wz hs hel
    clear hel
    generalize (eachV l).1 = q1 at *
    rw [hz0] at hea
    clear hz0
    have HR1 : Hid (∀ R : Int × Int, rulesE l = R → True) := fun _ _ => trivial
    clear HR1
    go_enter Tryz.func17, Tryz.ntmps17
    by_cases hd0 : 0 ≤ diffOf l
    · have d2 : decide (0 ≤ diffOf l) = true := decide_eq_true hd0
      have HX : Hid (rulesE l = (diffOf l, 5)) := by unfold Hid; rw [HE3.out, if_pos hd0]
      clear hd0 HE3 hro hch hed hst hdp
      generalize diffOf l = q at *
      go_wp2_with (first
        | (go_at_call 41; refine (hea _ (Ch.refl _ _)).mono ?_; rintro e w1 ⟨rfl, z1⟩; clear hea)
        | (go_at_call 42; refine (hdf _ z1).mono ?_; rintro e w2 ⟨rfl, hc2⟩; clear hdf; have z2 := z1.trans hc2))
      go_ret2
      exact ⟨by rw [HX.out]; rfl, z2⟩
    · have d2 : decide (0 ≤ diffOf l) = false := decide_eq_false hd0
      have HE4 : Hid (rulesE l = if rolesBad l = true then (0, 8) else if depsB (edgesOf l) = true then (0, 9) else (0, strE (edgesOf l))) := by unfold Hid; rw [HE3.out, if_neg hd0]
      have HRB : Hid (rolesBad l = (decide ((rolesOf l).length = 0) || (decide (4 < (rolesOf l).length) || (decide ((rolesOf l).length = 1) && decide (chanceOf l = 0))))) := rfl
      clear hd0 HE3
      generalize diffOf l = dq at *
      generalize hrl : (rolesOf l) = RL at *
      generalize chanceOf l = cq at *
      generalize hRLn : RL.length = rl at *
      clear hrl
      by_cases h0 : rl = 0
      · have HX : Hid (rulesE l = (0, 8)) := by unfold Hid; rw [HE4.out, if_pos (by rw [HRB.out, h0]; simp)]
        have d3 : decide ((rl : Int) < 1) = true := decide_eq_true (by omega)
        clear HE4 HRB hch hed hst hdp h0
        go_wp2_with (first
          | (go_at_call 41; refine (hea _ (Ch.refl _ _)).mono ?_; rintro e w1 ⟨rfl, z1⟩; clear hea)
          | (go_at_call 42; refine (hdf _ z1).mono ?_; rintro e w2 ⟨rfl, hc2⟩; clear hdf; have z2 := z1.trans hc2)
          | (go_at_call 20; refine (hro _ z2).mono ?_; rintro e w3 ⟨v3, rfl, ho3, hc3⟩; clear hro; have z3 := z2.trans hc3; obtain ⟨a3, c3, rfl, _, _⟩ := ho3.form; rw [hRLn] at *; clear ho3))
        go_ret2
        exact ⟨by rw [HX.out]; rfl, z3⟩
      · have d3 : decide ((rl : Int) < 1) = false := decide_eq_false (by omega)
        by_cases h4 : 4 < rl
        · have HX : Hid (rulesE l = (0, 8)) := by unfold Hid; rw [HE4.out, if_pos (by rw [HRB.out]; simp [h4])]
          have d4 : decide ((4 : Int) < (rl : Int)) = true := decide_eq_true (by omega)
          clear HE4 HRB hch hed hst hdp h0 h4
          go_wp2_with (first
            | (go_at_call 41; refine (hea _ (Ch.refl _ _)).mono ?_; rintro e w1 ⟨rfl, z1⟩; clear hea)
            | (go_at_call 42; refine (hdf _ z1).mono ?_; rintro e w2 ⟨rfl, hc2⟩; clear hdf; have z2 := z1.trans hc2)
            | (go_at_call 20; refine (hro _ z2).mono ?_; rintro e w3 ⟨v3, rfl, ho3, hc3⟩; clear hro; have z3 := z2.trans hc3; obtain ⟨a3, c3, rfl, _, _⟩ := ho3.form; rw [hRLn] at *; clear ho3))
          go_ret2
          exact ⟨by rw [HX.out]; rfl, z3⟩
        · have d4 : decide ((4 : Int) < (rl : Int)) = false := decide_eq_false (by omega)
          by_cases h1 : rl = 1 ∧ cq = 0
          · obtain ⟨h1, hc0⟩ := h1
            have HX : Hid (rulesE l = (0, 8)) := by unfold Hid; rw [HE4.out, if_pos (by rw [HRB.out, h1, hc0]; simp)]
            have e2 : ((rl : Int) == 1) = true := by rw [h1]; rfl
            have e3 : (cq == 0) = true := by rw [hc0]; rfl
            clear HE4 HRB hed hst hdp h0 h4 h1 hc0
            go_wp2_with (first
              | (go_at_call 41; refine (hea _ (Ch.refl _ _)).mono ?_; rintro e w1 ⟨rfl, z1⟩; clear hea)
              | (go_at_call 42; refine (hdf _ z1).mono ?_; rintro e w2 ⟨rfl, hc2⟩; clear hdf; have z2 := z1.trans hc2)
              | (go_at_call 20; refine (hro _ z2).mono ?_; rintro e w3 ⟨v3, rfl, ho3, hc3⟩; clear hro; have z3 := z2.trans hc3; obtain ⟨a3, c3, rfl, _, _⟩ := ho3.form; rw [hRLn] at *; clear ho3)
              | (go_at_call 22; refine (hch _ z3).mono ?_; rintro e w4 ⟨rfl, hc4⟩; clear hch; replace z3 := z3.trans hc4; clear hc4))
            go_ret2
            exact ⟨by rw [HX.out]; rfl, z3⟩
          · have HE5 : Hid (rulesE l = if depsB (edgesOf l) = true then (0, 9) else (0, strE (edgesOf l))) := by
              unfold Hid
              rw [HE4.out, if_neg]
              rw [HRB.out]
              simp only [Bool.or_eq_true, Bool.and_eq_true, decide_eq_true_eq]
              omega
            clear HE4 HRB
            have HDB : Hid (depsB (edgesOf l) = (onB (edgesOf l) bInit bTrue || (onB (edgesOf l) bInit bDoes || (onB (edgesOf l) bLegal bDoes || (onB (edgesOf l) bGoal bDoes || onB (edgesOf l) bTerminal bDoes))))) := rfl
            have hd1 := hdp bInit bTrue
            have hd2 := hdp bInit bDoes
            have hd3 := hdp bLegal bDoes
            have hd4 := hdp bGoal bDoes
            have hd5 := hdp bTerminal bDoes
            clear hdp
            generalize onB (edgesOf l) bInit bTrue = b1 at *
            generalize onB (edgesOf l) bInit bDoes = b2 at *
            generalize onB (edgesOf l) bLegal bDoes = b3 at *
            generalize onB (edgesOf l) bGoal bDoes = b4 at *
            generalize onB (edgesOf l) bTerminal bDoes = b5 at *
            unfold bInit bTrue at hd1
            unfold bInit bDoes at hd2
            unfold bLegal bDoes at hd3
            unfold bGoal bDoes at hd4
            unfold bTerminal bDoes at hd5
            have hch2 : ∃ (r1 : Bool), ((rl : Int) == 1) = r1 ∧ (r1 = true → (cq == 0) = false) := ⟨_, rfl, fun hr => by
              rw [beq_eq_false_iff_ne]; rw [beq_iff_eq] at hr; omega⟩
            obtain ⟨r1, e2, he3⟩ := hch2
            clear h1 h0 h4
            have hcs : b1 = true ∨ (b1 = false ∧ b2 = true) ∨ (b1 = false ∧ b2 = false ∧ b3 = true) ∨ (b1 = false ∧ b2 = false ∧ b3 = false ∧ b4 = true) ∨ (b1 = false ∧ b2 = false ∧ b3 = false ∧ b4 = false ∧ b5 = true) ∨ (b1 = false ∧ b2 = false ∧ b3 = false ∧ b4 = false ∧ b5 = false) := by
              cases b1 <;> cases b2 <;> cases b3 <;> cases b4 <;> cases b5 <;> simp
            cases r1
            case false =>
              clear he3
              rcases hcs with rfl | ⟨rfl, rfl⟩ | ⟨rfl, rfl, rfl⟩ | ⟨rfl, rfl, rfl, rfl⟩ | ⟨rfl, rfl, rfl, rfl, rfl⟩ | ⟨rfl, rfl, rfl, rfl, rfl⟩
              · have HX : Hid (rulesE l = (0, 9)) := by unfold Hid; rw [HE5.out, if_pos (by rw [HDB.out]; rfl)]
                clear HE5 HDB hst
                go_wp2_with (first
                  | (go_at_call 41; refine (hea _ (Ch.refl _ _)).mono ?_; rintro e w1 ⟨rfl, z1⟩; clear hea)
                  | (go_at_call 42; refine (hdf _ z1).mono ?_; rintro e w2 ⟨rfl, hc2⟩; clear hdf; have z2 := z1.trans hc2)
                  | (go_at_call 20; refine (hro _ z2).mono ?_; rintro e w3 ⟨v3, rfl, ho3, hc3⟩; clear hro; have z3 := z2.trans hc3; obtain ⟨a3, c3, rfl, _, _⟩ := ho3.form; rw [hRLn] at *; clear ho3)
                  | (go_at_call 43; refine (hed _ z3).mono ?_; rintro e w5 ⟨v5, rfl, hs5, hc5⟩; clear hed; replace z3 := z3.trans hc5; clear hc5)
                  | (go_at_call 44; refine (hd1 _ _ _ hs5).mono ?_; rintro e w11 ⟨rfl, hc6⟩; clear hd1; replace z3 := z3.trans hc6; replace hs5 := hs5.ch0 hc6; clear hc6))
                go_ret2
                exact ⟨by rw [HX.out]; rfl, z3⟩
              · have HX : Hid (rulesE l = (0, 9)) := by unfold Hid; rw [HE5.out, if_pos (by rw [HDB.out]; rfl)]
                clear HE5 HDB hst
                go_wp2_with (first
                  | (go_at_call 41; refine (hea _ (Ch.refl _ _)).mono ?_; rintro e w1 ⟨rfl, z1⟩; clear hea)
                  | (go_at_call 42; refine (hdf _ z1).mono ?_; rintro e w2 ⟨rfl, hc2⟩; clear hdf; have z2 := z1.trans hc2)
                  | (go_at_call 20; refine (hro _ z2).mono ?_; rintro e w3 ⟨v3, rfl, ho3, hc3⟩; clear hro; have z3 := z2.trans hc3; obtain ⟨a3, c3, rfl, _, _⟩ := ho3.form; rw [hRLn] at *; clear ho3)
                  | (go_at_call 43; refine (hed _ z3).mono ?_; rintro e w5 ⟨v5, rfl, hs5, hc5⟩; clear hed; replace z3 := z3.trans hc5; clear hc5)
                  | (go_at_call 44; refine (hd1 _ _ _ hs5).mono ?_; rintro e w11 ⟨rfl, hc6⟩; clear hd1; replace z3 := z3.trans hc6; replace hs5 := hs5.ch0 hc6; clear hc6)
                  | (go_at_call 44; refine (hd2 _ _ _ hs5).mono ?_; rintro e w12 ⟨rfl, hc6⟩; clear hd2; replace z3 := z3.trans hc6; replace hs5 := hs5.ch0 hc6; clear hc6))
                go_ret2
                exact ⟨by rw [HX.out]; rfl, z3⟩
              · have HX : Hid (rulesE l = (0, 9)) := by unfold Hid; rw [HE5.out, if_pos (by rw [HDB.out]; rfl)]
                clear HE5 HDB hst
                go_wp2_with (first
                  | (go_at_call 41; refine (hea _ (Ch.refl _ _)).mono ?_; rintro e w1 ⟨rfl, z1⟩; clear hea)
                  | (go_at_call 42; refine (hdf _ z1).mono ?_; rintro e w2 ⟨rfl, hc2⟩; clear hdf; have z2 := z1.trans hc2)
                  | (go_at_call 20; refine (hro _ z2).mono ?_; rintro e w3 ⟨v3, rfl, ho3, hc3⟩; clear hro; have z3 := z2.trans hc3; obtain ⟨a3, c3, rfl, _, _⟩ := ho3.form; rw [hRLn] at *; clear ho3)
                  | (go_at_call 43; refine (hed _ z3).mono ?_; rintro e w5 ⟨v5, rfl, hs5, hc5⟩; clear hed; replace z3 := z3.trans hc5; clear hc5)
                  | (go_at_call 44; refine (hd1 _ _ _ hs5).mono ?_; rintro e w11 ⟨rfl, hc6⟩; clear hd1; replace z3 := z3.trans hc6; replace hs5 := hs5.ch0 hc6; clear hc6)
                  | (go_at_call 44; refine (hd2 _ _ _ hs5).mono ?_; rintro e w12 ⟨rfl, hc6⟩; clear hd2; replace z3 := z3.trans hc6; replace hs5 := hs5.ch0 hc6; clear hc6)
                  | (go_at_call 44; refine (hd3 _ _ _ hs5).mono ?_; rintro e w13 ⟨rfl, hc6⟩; clear hd3; replace z3 := z3.trans hc6; replace hs5 := hs5.ch0 hc6; clear hc6))
                go_ret2
                exact ⟨by rw [HX.out]; rfl, z3⟩
              · have HX : Hid (rulesE l = (0, 9)) := by unfold Hid; rw [HE5.out, if_pos (by rw [HDB.out]; rfl)]
                clear HE5 HDB hst
                go_wp2_with (first
                  | (go_at_call 41; refine (hea _ (Ch.refl _ _)).mono ?_; rintro e w1 ⟨rfl, z1⟩; clear hea)
                  | (go_at_call 42; refine (hdf _ z1).mono ?_; rintro e w2 ⟨rfl, hc2⟩; clear hdf; have z2 := z1.trans hc2)
                  | (go_at_call 20; refine (hro _ z2).mono ?_; rintro e w3 ⟨v3, rfl, ho3, hc3⟩; clear hro; have z3 := z2.trans hc3; obtain ⟨a3, c3, rfl, _, _⟩ := ho3.form; rw [hRLn] at *; clear ho3)
                  | (go_at_call 43; refine (hed _ z3).mono ?_; rintro e w5 ⟨v5, rfl, hs5, hc5⟩; clear hed; replace z3 := z3.trans hc5; clear hc5)
                  | (go_at_call 44; refine (hd1 _ _ _ hs5).mono ?_; rintro e w11 ⟨rfl, hc6⟩; clear hd1; replace z3 := z3.trans hc6; replace hs5 := hs5.ch0 hc6; clear hc6)
                  | (go_at_call 44; refine (hd2 _ _ _ hs5).mono ?_; rintro e w12 ⟨rfl, hc6⟩; clear hd2; replace z3 := z3.trans hc6; replace hs5 := hs5.ch0 hc6; clear hc6)
                  | (go_at_call 44; refine (hd3 _ _ _ hs5).mono ?_; rintro e w13 ⟨rfl, hc6⟩; clear hd3; replace z3 := z3.trans hc6; replace hs5 := hs5.ch0 hc6; clear hc6)
                  | (go_at_call 44; refine (hd4 _ _ _ hs5).mono ?_; rintro e w14 ⟨rfl, hc6⟩; clear hd4; replace z3 := z3.trans hc6; replace hs5 := hs5.ch0 hc6; clear hc6))
                go_ret2
                exact ⟨by rw [HX.out]; rfl, z3⟩
              · have HX : Hid (rulesE l = (0, 9)) := by unfold Hid; rw [HE5.out, if_pos (by rw [HDB.out]; rfl)]
                clear HE5 HDB hst
                go_wp2_with (first
                  | (go_at_call 41; refine (hea _ (Ch.refl _ _)).mono ?_; rintro e w1 ⟨rfl, z1⟩; clear hea)
                  | (go_at_call 42; refine (hdf _ z1).mono ?_; rintro e w2 ⟨rfl, hc2⟩; clear hdf; have z2 := z1.trans hc2)
                  | (go_at_call 20; refine (hro _ z2).mono ?_; rintro e w3 ⟨v3, rfl, ho3, hc3⟩; clear hro; have z3 := z2.trans hc3; obtain ⟨a3, c3, rfl, _, _⟩ := ho3.form; rw [hRLn] at *; clear ho3)
                  | (go_at_call 43; refine (hed _ z3).mono ?_; rintro e w5 ⟨v5, rfl, hs5, hc5⟩; clear hed; replace z3 := z3.trans hc5; clear hc5)
                  | (go_at_call 44; refine (hd1 _ _ _ hs5).mono ?_; rintro e w11 ⟨rfl, hc6⟩; clear hd1; replace z3 := z3.trans hc6; replace hs5 := hs5.ch0 hc6; clear hc6)
                  | (go_at_call 44; refine (hd2 _ _ _ hs5).mono ?_; rintro e w12 ⟨rfl, hc6⟩; clear hd2; replace z3 := z3.trans hc6; replace hs5 := hs5.ch0 hc6; clear hc6)
                  | (go_at_call 44; refine (hd3 _ _ _ hs5).mono ?_; rintro e w13 ⟨rfl, hc6⟩; clear hd3; replace z3 := z3.trans hc6; replace hs5 := hs5.ch0 hc6; clear hc6)
                  | (go_at_call 44; refine (hd4 _ _ _ hs5).mono ?_; rintro e w14 ⟨rfl, hc6⟩; clear hd4; replace z3 := z3.trans hc6; replace hs5 := hs5.ch0 hc6; clear hc6)
                  | (go_at_call 44; refine (hd5 _ _ _ hs5).mono ?_; rintro e w15 ⟨rfl, hc6⟩; clear hd5; replace z3 := z3.trans hc6; replace hs5 := hs5.ch0 hc6; clear hc6))
                go_ret2
                exact ⟨by rw [HX.out]; rfl, z3⟩
              · have HX : Hid (rulesE l = (0, strE (edgesOf l))) := by unfold Hid; rw [HE5.out, if_neg (by rw [HDB.out]; simp)]
                clear HE5 HDB
                go_wp2_with (first
                  | (go_at_call 41; refine (hea _ (Ch.refl _ _)).mono ?_; rintro e w1 ⟨rfl, z1⟩; clear hea)
                  | (go_at_call 42; refine (hdf _ z1).mono ?_; rintro e w2 ⟨rfl, hc2⟩; clear hdf; have z2 := z1.trans hc2)
                  | (go_at_call 20; refine (hro _ z2).mono ?_; rintro e w3 ⟨v3, rfl, ho3, hc3⟩; clear hro; have z3 := z2.trans hc3; obtain ⟨a3, c3, rfl, _, _⟩ := ho3.form; rw [hRLn] at *; clear ho3)
                  | (go_at_call 43; refine (hed _ z3).mono ?_; rintro e w5 ⟨v5, rfl, hs5, hc5⟩; clear hed; replace z3 := z3.trans hc5; clear hc5)
                  | (go_at_call 44; refine (hd1 _ _ _ hs5).mono ?_; rintro e w11 ⟨rfl, hc6⟩; clear hd1; replace z3 := z3.trans hc6; replace hs5 := hs5.ch0 hc6; clear hc6)
                  | (go_at_call 44; refine (hd2 _ _ _ hs5).mono ?_; rintro e w12 ⟨rfl, hc6⟩; clear hd2; replace z3 := z3.trans hc6; replace hs5 := hs5.ch0 hc6; clear hc6)
                  | (go_at_call 44; refine (hd3 _ _ _ hs5).mono ?_; rintro e w13 ⟨rfl, hc6⟩; clear hd3; replace z3 := z3.trans hc6; replace hs5 := hs5.ch0 hc6; clear hc6)
                  | (go_at_call 44; refine (hd4 _ _ _ hs5).mono ?_; rintro e w14 ⟨rfl, hc6⟩; clear hd4; replace z3 := z3.trans hc6; replace hs5 := hs5.ch0 hc6; clear hc6)
                  | (go_at_call 44; refine (hd5 _ _ _ hs5).mono ?_; rintro e w15 ⟨rfl, hc6⟩; clear hd5; replace z3 := z3.trans hc6; replace hs5 := hs5.ch0 hc6; clear hc6)
                  | (go_at_call 45; refine (hst _ z3).mono ?_; rintro e w6 ⟨v6, n6, o6, rfl, ha6, hr6, hc6⟩; clear hst; replace z3 := z3.trans hc6))
                go_ret2
                exact ⟨by rw [HX.out, strE_res ha6 hr6]; rfl, z3⟩
            case true =>
              have e3 := he3 rfl
              clear he3
              rcases hcs with rfl | ⟨rfl, rfl⟩ | ⟨rfl, rfl, rfl⟩ | ⟨rfl, rfl, rfl, rfl⟩ | ⟨rfl, rfl, rfl, rfl, rfl⟩ | ⟨rfl, rfl, rfl, rfl, rfl⟩
              · have HX : Hid (rulesE l = (0, 9)) := by unfold Hid; rw [HE5.out, if_pos (by rw [HDB.out]; rfl)]
                clear HE5 HDB hst
                go_wp2_with (first
                  | (go_at_call 41; refine (hea _ (Ch.refl _ _)).mono ?_; rintro e w1 ⟨rfl, z1⟩; clear hea)
                  | (go_at_call 42; refine (hdf _ z1).mono ?_; rintro e w2 ⟨rfl, hc2⟩; clear hdf; have z2 := z1.trans hc2)
                  | (go_at_call 20; refine (hro _ z2).mono ?_; rintro e w3 ⟨v3, rfl, ho3, hc3⟩; clear hro; have z3 := z2.trans hc3; obtain ⟨a3, c3, rfl, _, _⟩ := ho3.form; rw [hRLn] at *; clear ho3)
                  | (go_at_call 22; refine (hch _ z3).mono ?_; rintro e w4 ⟨rfl, hc4⟩; clear hch; replace z3 := z3.trans hc4; clear hc4)
                  | (go_at_call 43; refine (hed _ z3).mono ?_; rintro e w5 ⟨v5, rfl, hs5, hc5⟩; clear hed; replace z3 := z3.trans hc5; clear hc5)
                  | (go_at_call 44; refine (hd1 _ _ _ hs5).mono ?_; rintro e w11 ⟨rfl, hc6⟩; clear hd1; replace z3 := z3.trans hc6; replace hs5 := hs5.ch0 hc6; clear hc6))
                go_ret2
                exact ⟨by rw [HX.out]; rfl, z3⟩
              · have HX : Hid (rulesE l = (0, 9)) := by unfold Hid; rw [HE5.out, if_pos (by rw [HDB.out]; rfl)]
                clear HE5 HDB hst
                go_wp2_with (first
                  | (go_at_call 41; refine (hea _ (Ch.refl _ _)).mono ?_; rintro e w1 ⟨rfl, z1⟩; clear hea)
                  | (go_at_call 42; refine (hdf _ z1).mono ?_; rintro e w2 ⟨rfl, hc2⟩; clear hdf; have z2 := z1.trans hc2)
                  | (go_at_call 20; refine (hro _ z2).mono ?_; rintro e w3 ⟨v3, rfl, ho3, hc3⟩; clear hro; have z3 := z2.trans hc3; obtain ⟨a3, c3, rfl, _, _⟩ := ho3.form; rw [hRLn] at *; clear ho3)
                  | (go_at_call 22; refine (hch _ z3).mono ?_; rintro e w4 ⟨rfl, hc4⟩; clear hch; replace z3 := z3.trans hc4; clear hc4)
                  | (go_at_call 43; refine (hed _ z3).mono ?_; rintro e w5 ⟨v5, rfl, hs5, hc5⟩; clear hed; replace z3 := z3.trans hc5; clear hc5)
                  | (go_at_call 44; refine (hd1 _ _ _ hs5).mono ?_; rintro e w11 ⟨rfl, hc6⟩; clear hd1; replace z3 := z3.trans hc6; replace hs5 := hs5.ch0 hc6; clear hc6)
                  | (go_at_call 44; refine (hd2 _ _ _ hs5).mono ?_; rintro e w12 ⟨rfl, hc6⟩; clear hd2; replace z3 := z3.trans hc6; replace hs5 := hs5.ch0 hc6; clear hc6))
                go_ret2
                exact ⟨by rw [HX.out]; rfl, z3⟩
              · have HX : Hid (rulesE l = (0, 9)) := by unfold Hid; rw [HE5.out, if_pos (by rw [HDB.out]; rfl)]
                clear HE5 HDB hst
                go_wp2_with (first
                  | (go_at_call 41; refine (hea _ (Ch.refl _ _)).mono ?_; rintro e w1 ⟨rfl, z1⟩; clear hea)
                  | (go_at_call 42; refine (hdf _ z1).mono ?_; rintro e w2 ⟨rfl, hc2⟩; clear hdf; have z2 := z1.trans hc2)
                  | (go_at_call 20; refine (hro _ z2).mono ?_; rintro e w3 ⟨v3, rfl, ho3, hc3⟩; clear hro; have z3 := z2.trans hc3; obtain ⟨a3, c3, rfl, _, _⟩ := ho3.form; rw [hRLn] at *; clear ho3)
                  | (go_at_call 22; refine (hch _ z3).mono ?_; rintro e w4 ⟨rfl, hc4⟩; clear hch; replace z3 := z3.trans hc4; clear hc4)
                  | (go_at_call 43; refine (hed _ z3).mono ?_; rintro e w5 ⟨v5, rfl, hs5, hc5⟩; clear hed; replace z3 := z3.trans hc5; clear hc5)
                  | (go_at_call 44; refine (hd1 _ _ _ hs5).mono ?_; rintro e w11 ⟨rfl, hc6⟩; clear hd1; replace z3 := z3.trans hc6; replace hs5 := hs5.ch0 hc6; clear hc6)
                  | (go_at_call 44; refine (hd2 _ _ _ hs5).mono ?_; rintro e w12 ⟨rfl, hc6⟩; clear hd2; replace z3 := z3.trans hc6; replace hs5 := hs5.ch0 hc6; clear hc6)
                  | (go_at_call 44; refine (hd3 _ _ _ hs5).mono ?_; rintro e w13 ⟨rfl, hc6⟩; clear hd3; replace z3 := z3.trans hc6; replace hs5 := hs5.ch0 hc6; clear hc6))
                go_ret2
                exact ⟨by rw [HX.out]; rfl, z3⟩
              · have HX : Hid (rulesE l = (0, 9)) := by unfold Hid; rw [HE5.out, if_pos (by rw [HDB.out]; rfl)]
                clear HE5 HDB hst
                go_wp2_with (first
                  | (go_at_call 41; refine (hea _ (Ch.refl _ _)).mono ?_; rintro e w1 ⟨rfl, z1⟩; clear hea)
                  | (go_at_call 42; refine (hdf _ z1).mono ?_; rintro e w2 ⟨rfl, hc2⟩; clear hdf; have z2 := z1.trans hc2)
                  | (go_at_call 20; refine (hro _ z2).mono ?_; rintro e w3 ⟨v3, rfl, ho3, hc3⟩; clear hro; have z3 := z2.trans hc3; obtain ⟨a3, c3, rfl, _, _⟩ := ho3.form; rw [hRLn] at *; clear ho3)
                  | (go_at_call 22; refine (hch _ z3).mono ?_; rintro e w4 ⟨rfl, hc4⟩; clear hch; replace z3 := z3.trans hc4; clear hc4)
                  | (go_at_call 43; refine (hed _ z3).mono ?_; rintro e w5 ⟨v5, rfl, hs5, hc5⟩; clear hed; replace z3 := z3.trans hc5; clear hc5)
                  | (go_at_call 44; refine (hd1 _ _ _ hs5).mono ?_; rintro e w11 ⟨rfl, hc6⟩; clear hd1; replace z3 := z3.trans hc6; replace hs5 := hs5.ch0 hc6; clear hc6)
                  | (go_at_call 44; refine (hd2 _ _ _ hs5).mono ?_; rintro e w12 ⟨rfl, hc6⟩; clear hd2; replace z3 := z3.trans hc6; replace hs5 := hs5.ch0 hc6; clear hc6)
                  | (go_at_call 44; refine (hd3 _ _ _ hs5).mono ?_; rintro e w13 ⟨rfl, hc6⟩; clear hd3; replace z3 := z3.trans hc6; replace hs5 := hs5.ch0 hc6; clear hc6)
                  | (go_at_call 44; refine (hd4 _ _ _ hs5).mono ?_; rintro e w14 ⟨rfl, hc6⟩; clear hd4; replace z3 := z3.trans hc6; replace hs5 := hs5.ch0 hc6; clear hc6))
                go_ret2
                exact ⟨by rw [HX.out]; rfl, z3⟩
              · have HX : Hid (rulesE l = (0, 9)) := by unfold Hid; rw [HE5.out, if_pos (by rw [HDB.out]; rfl)]
                clear HE5 HDB hst
                go_wp2_with (first
                  | (go_at_call 41; refine (hea _ (Ch.refl _ _)).mono ?_; rintro e w1 ⟨rfl, z1⟩; clear hea)
                  | (go_at_call 42; refine (hdf _ z1).mono ?_; rintro e w2 ⟨rfl, hc2⟩; clear hdf; have z2 := z1.trans hc2)
                  | (go_at_call 20; refine (hro _ z2).mono ?_; rintro e w3 ⟨v3, rfl, ho3, hc3⟩; clear hro; have z3 := z2.trans hc3; obtain ⟨a3, c3, rfl, _, _⟩ := ho3.form; rw [hRLn] at *; clear ho3)
                  | (go_at_call 22; refine (hch _ z3).mono ?_; rintro e w4 ⟨rfl, hc4⟩; clear hch; replace z3 := z3.trans hc4; clear hc4)
                  | (go_at_call 43; refine (hed _ z3).mono ?_; rintro e w5 ⟨v5, rfl, hs5, hc5⟩; clear hed; replace z3 := z3.trans hc5; clear hc5)
                  | (go_at_call 44; refine (hd1 _ _ _ hs5).mono ?_; rintro e w11 ⟨rfl, hc6⟩; clear hd1; replace z3 := z3.trans hc6; replace hs5 := hs5.ch0 hc6; clear hc6)
                  | (go_at_call 44; refine (hd2 _ _ _ hs5).mono ?_; rintro e w12 ⟨rfl, hc6⟩; clear hd2; replace z3 := z3.trans hc6; replace hs5 := hs5.ch0 hc6; clear hc6)
                  | (go_at_call 44; refine (hd3 _ _ _ hs5).mono ?_; rintro e w13 ⟨rfl, hc6⟩; clear hd3; replace z3 := z3.trans hc6; replace hs5 := hs5.ch0 hc6; clear hc6)
                  | (go_at_call 44; refine (hd4 _ _ _ hs5).mono ?_; rintro e w14 ⟨rfl, hc6⟩; clear hd4; replace z3 := z3.trans hc6; replace hs5 := hs5.ch0 hc6; clear hc6)
                  | (go_at_call 44; refine (hd5 _ _ _ hs5).mono ?_; rintro e w15 ⟨rfl, hc6⟩; clear hd5; replace z3 := z3.trans hc6; replace hs5 := hs5.ch0 hc6; clear hc6))
                go_ret2
                exact ⟨by rw [HX.out]; rfl, z3⟩
              · have HX : Hid (rulesE l = (0, strE (edgesOf l))) := by unfold Hid; rw [HE5.out, if_neg (by rw [HDB.out]; simp)]
                clear HE5 HDB
                go_wp2_with (first
                  | (go_at_call 41; refine (hea _ (Ch.refl _ _)).mono ?_; rintro e w1 ⟨rfl, z1⟩; clear hea)
                  | (go_at_call 42; refine (hdf _ z1).mono ?_; rintro e w2 ⟨rfl, hc2⟩; clear hdf; have z2 := z1.trans hc2)
                  | (go_at_call 20; refine (hro _ z2).mono ?_; rintro e w3 ⟨v3, rfl, ho3, hc3⟩; clear hro; have z3 := z2.trans hc3; obtain ⟨a3, c3, rfl, _, _⟩ := ho3.form; rw [hRLn] at *; clear ho3)
                  | (go_at_call 22; refine (hch _ z3).mono ?_; rintro e w4 ⟨rfl, hc4⟩; clear hch; replace z3 := z3.trans hc4; clear hc4)
                  | (go_at_call 43; refine (hed _ z3).mono ?_; rintro e w5 ⟨v5, rfl, hs5, hc5⟩; clear hed; replace z3 := z3.trans hc5; clear hc5)
                  | (go_at_call 44; refine (hd1 _ _ _ hs5).mono ?_; rintro e w11 ⟨rfl, hc6⟩; clear hd1; replace z3 := z3.trans hc6; replace hs5 := hs5.ch0 hc6; clear hc6)
                  | (go_at_call 44; refine (hd2 _ _ _ hs5).mono ?_; rintro e w12 ⟨rfl, hc6⟩; clear hd2; replace z3 := z3.trans hc6; replace hs5 := hs5.ch0 hc6; clear hc6)
                  | (go_at_call 44; refine (hd3 _ _ _ hs5).mono ?_; rintro e w13 ⟨rfl, hc6⟩; clear hd3; replace z3 := z3.trans hc6; replace hs5 := hs5.ch0 hc6; clear hc6)
                  | (go_at_call 44; refine (hd4 _ _ _ hs5).mono ?_; rintro e w14 ⟨rfl, hc6⟩; clear hd4; replace z3 := z3.trans hc6; replace hs5 := hs5.ch0 hc6; clear hc6)
                  | (go_at_call 44; refine (hd5 _ _ _ hs5).mono ?_; rintro e w15 ⟨rfl, hc6⟩; clear hd5; replace z3 := z3.trans hc6; replace hs5 := hs5.ch0 hc6; clear hc6)
                  | (go_at_call 45; refine (hst _ z3).mono ?_; rintro e w6 ⟨v6, n6, o6, rfl, ha6, hr6, hc6⟩; clear hst; replace z3 := z3.trans hc6))
                go_ret2
                exact ⟨by rw [HX.out, strE_res ha6 hr6]; rfl, z3⟩
end

section
open Go.RowKit

set_option maxRecDepth 100000 in
set_option maxHeartbeats 8000000 in
theorem lawRules11_ (l : List Ru) (p : Nat → Prop) (v : Value) (w : World) (hK : KwAt w) (h : SlR p w v l) (hN : ∀ r ∈ l, NiceR reachBytes maxLen r) :
    Calls Tryz.prog 5 #[v] w fun e w' => e = .returned (.bool true) ∧ Ch [] w w' := by
  have hfew : ∀ wz, Ch [] w wz → Calls Tryz.prog 15 #[v, .int .i64 (140 : Nat)] wz fun e w' => e = .returned (.bool (decide (l.length ≤ 140) && l.all fewB)) ∧ Ch [] wz w' := fun wz hz => fewRules_ p v l 140 wz (h.ch0 hz)
  have haw := fun wz (hz : Ch [] w wz) => law11awake wz (hK.ch hz)
  have HOK := Lib.hid (show (decide (l.length ≤ 140) && l.all fewB) = true → (∀ r ∈ l, RuOk reachBytes maxLen r) ∧ l.length ≤ 140 from fun hq => by
    rw [Bool.and_eq_true, decide_eq_true_eq, List.all_eq_true] at hq
    exact ⟨fun r hr => few_ok (hq.2 r hr) (hN r hr), hq.1⟩)
  clear hN
  have HM1 := Lib.hid (fun (hO : ∀ r ∈ l, RuOk reachBytes maxLen r) (hl : l.length ≤ 140) wz (hz : Ch [] w wz) => chRules_ p v l wz reachBytes maxLen (hK.ch hz) (h.ch0 hz) hO (by omega))
  have HM2 := Lib.hid (fun (hO : ∀ r ∈ l, RuOk reachBytes maxLen r) (hl : l.length ≤ 140) wz (hz : Ch [] w wz) => refRules_ p v l wz reachBytes maxLen (h.ch0 hz) hO (by omega))
  obtain ⟨a, c, rfl, hlc, hm⟩ := h.form
  clear h
  generalize (rulesE l).1 = R1 at *
  generalize (rulesE l).2 = R2 at *
  cases hf : (decide (l.length ≤ 140) && l.all fewB) with
  | false =>
    rw [hf] at hfew
    clear hf HOK HM1 HM2
    go_enter Tryz.func5, Tryz.ntmps5
    go_wp2_with (first
      | (go_at_call 15; refine (hfew _ (Ch.refl _ _)).mono ?_; rintro e w1 ⟨rfl, hd1⟩; clear hfew)
      | (go_at_call 11; refine (haw _ hd1).mono ?_; rintro e w2 ⟨rfl, hd2⟩))
    go_ret
    exact ⟨rfl, hd1.trans hd2⟩
  | true =>
    rw [hf] at hfew
    obtain ⟨hO, hl⟩ := HOK.out hf
    have hm1 := HM1.out hO hl
    have hm2 := HM2.out hO hl
    clear hf HOK HM1 HM2 hO
    go_enter Tryz.func5, Tryz.ntmps5
    go_wp2_with (first
      | (go_at_call 15; refine (hfew _ (Ch.refl _ _)).mono ?_; rintro e w1 ⟨rfl, hB⟩; clear hfew)
      | (go_at_call 16; refine (hm1 _ hB).mono ?_; rintro e w2 ⟨rfl, hd⟩; replace hB := hB.trans hd; clear hd hm1)
      | (go_at_call 17; refine (hm2 _ hB).mono ?_; rintro e w3 ⟨rfl, hd⟩; replace hB := hB.trans hd; clear hd hm2)
      | (go_at_call 11; refine (haw _ hB).mono ?_; rintro e w9 ⟨rfl, hd⟩; replace hB := hB.trans hd; clear hd haw))
    go_ret
    exact ⟨rfl, hB⟩
end
end Go.Proofs.YtbongbknciibiaaGreatDoor
