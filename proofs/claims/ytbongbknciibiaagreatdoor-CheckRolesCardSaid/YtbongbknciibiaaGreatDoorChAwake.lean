
/-
  The examples of law11's awake, in plain lists: what is read, and what the functions of layer 11 answer on it. No program is in sight here.
  law11's awake returns true, wherever check.keywords is laid.
-/
import Derived.Test.YtbongbknciibiaaGreatDoorAwk
import Derived.Test.YtbongbknciibiaaGreatDoorChPlain
import Derived.Test.YtbongbknciibiaaGreatDoorChRls
import Derived.Test.YtbongbknciibiaaGreatDoorChFind
import Derived.Test.YtbongbknciibiaaGreatDoorRead
namespace Go.Proofs.YtbongbknciibiaaGreatDoor

section
def bX : ByteArray := ⟨#[120]⟩
def bXX : ByteArray := ⟨#[88]⟩
def ckS1 : ByteArray := ⟨#[112, 40, 88, 41, 32, 105, 102, 32, 110, 111, 116, 32, 113, 40, 88, 41, 46, 32, 114, 111, 108, 101, 40, 120, 41, 46, 32, 112, 40, 97, 41, 46, 32, 112, 46]⟩
def ckS2 : ByteArray := ⟨#[114, 111, 108, 101, 40, 120, 41, 46, 32, 108, 101, 103, 97, 108, 40, 120, 44, 32, 97, 41, 32, 105, 102, 32, 112, 46, 32, 112, 32, 105, 102, 32, 100, 111, 101, 115, 40, 120, 44, 32, 97, 41, 46]⟩
def ckL1 : List Ru := [⟨.mk bP [.mk bXX []], [⟨true, .mk bQ [.mk bXX []]⟩]⟩, ⟨.mk bRole [.mk bX []], []⟩, ⟨.mk bP [.mk bA []], []⟩, ⟨.mk bP [], []⟩]
def ckL2 : List Ru := [⟨.mk bRole [.mk bX []], []⟩, ⟨.mk bLegal [.mk bX [], .mk bA []], [⟨false, .mk bP []⟩]⟩, ⟨.mk bP [], [⟨false, .mk bDoes [.mk bX [], .mk bA []]⟩]⟩]
theorem ck_read1 : pRead ckS1 (ckS1.size + 1) 0 = ckL1 := by kernel_rfl
theorem ck_read2 : pRead ckS2 (ckS2.size + 1) 0 = ckL2 := by kernel_rfl
theorem ck_size1 : ckS1.size ≤ 1000000000 := by decide
theorem ck_size2 : ckS2.size ≤ 1000000000 := by decide
theorem ck_ok1 : ∀ r ∈ ckL1, RuOk 1000 4 r := by
  intro r hr
  simp only [ckL1, List.mem_cons, List.not_mem_nil, or_false] at hr
  rcases hr with rfl | rfl | rfl | rfl
  all_goals refine ⟨?_, ?_, by simp, by unfold maxLen; omega⟩
  all_goals (intro t ht; simp only [atomsOf, List.map_cons, List.map_nil, List.mem_cons, List.not_mem_nil, or_false] at ht)
  all_goals first | (rcases ht with rfl | rfl) | subst ht
  all_goals (simp only [Nice, NiceL, Tm.sz, szs]; decide)
theorem ck_ok2 : ∀ r ∈ ckL2, RuOk 1000 4 r := by
  intro r hr
  simp only [ckL2, List.mem_cons, List.not_mem_nil, or_false] at hr
  rcases hr with rfl | rfl | rfl
  all_goals refine ⟨?_, ?_, by simp, by unfold maxLen; omega⟩
  all_goals (intro t ht; simp only [atomsOf, List.map_cons, List.map_nil, List.mem_cons, List.not_mem_nil, or_false] at ht)
  all_goals first | (rcases ht with rfl | rfl) | subst ht
  all_goals (simp only [Nice, NiceL, Tm.sz, szs]; decide)
theorem rulesE_diff {l : List Ru} {d : Int} (h1 : ¬ 128 < l.length) (h2 : eachGo 0 l = none) (h3 : diffOf l = d) (h4 : 0 ≤ d) : rulesE l = (d, 5) := by
  unfold rulesE; rw [if_neg h1, h2]; simp only; rw [h3, if_pos h4]
theorem rulesE_dep {l : List Ru} (h1 : ¬ 128 < l.length) (h2 : eachGo 0 l = none) (h3 : diffOf l = -1) (h4 : rolesBad l = false) (h5 : depsB (edgesOf l) = true) : rulesE l = (0, 9) := by
  unfold rulesE; rw [if_neg h1, h2]; simp only; rw [h3, if_neg (by omega), if_neg (by simp [h4]), if_pos h5]
theorem ck_r1 : rulesE ((ckL1.take 4).drop 1) = (2, 5) := rulesE_diff (by decide) (by kernel_rfl) (by kernel_rfl) (by omega)
theorem ck_e2 : edgesOf ckL2 = [⟨bLegal, bP, false⟩, ⟨bP, bDoes, false⟩] := by kernel_rfl
theorem ck_r2 : rulesE ckL2 = (0, 9) := by
  refine rulesE_dep (by decide) (by kernel_rfl) (by kernel_rfl) (by kernel_rfl) ?_
  rw [ck_e2]
  have : onB [⟨bLegal, bP, false⟩, ⟨bP, bDoes, false⟩] bLegal bDoes = true := by
    simp only [onB, hasS, decide_eq_true_eq, mem_reachOf]
    exact .step (e := ⟨bP, bDoes, false⟩) (.one (e := ⟨bLegal, bP, false⟩) (by simp) rfl) (by simp) rfl
  unfold depsB
  rw [this]; simp
theorem ck_e3 : edgesOf ((ckL2.take 2).drop 0) = [⟨bLegal, bP, false⟩] := by kernel_rfl
theorem ck_r3 : rulesE ((ckL2.take 2).drop 0) = (0, 0) := by
  refine rulesE_of (by decide) ((eachGo_none _ 0).1 (by kernel_rfl)) ((diffOf_none _).1 (by kernel_rfl)) (by kernel_rfl) ?_ ?_
  · rw [ck_e3]
    have key : ∀ f t, bP ≠ t → onB [⟨bLegal, bP, false⟩] f t = false := by
      intro f t hne
      simp only [onB, hasS, decide_eq_false_iff_not, mem_reachOf]
      intro h
      obtain ⟨e, he, h2⟩ := h.target
      simp only [List.mem_cons, List.not_mem_nil, or_false] at he
      subst he
      exact hne h2
    have n1 : bP ≠ bTrue := neB (by kernel_rfl)
    have n2 : bP ≠ bDoes := neB (by kernel_rfl)
    unfold depsB
    rw [key _ _ n1, key _ _ n2, key _ _ n2, key _ _ n2, key _ _ n2]; rfl
  · rw [ck_e3]
    refine ⟨fun _ => 0, fun e he => ?_⟩
    simp only [List.mem_cons, List.not_mem_nil, or_false] at he
    subst he
    simp [stepN]
theorem ck_u : ruleE ⟨.mk bP [.mk bXX []], [⟨true, .mk bQ [.mk bXX []]⟩]⟩ = 7 := by kernel_rfl
theorem ck_roles : rolesOf ckL1 = [.mk bX []] := by kernel_rfl
theorem ck_chance : chanceOf ckL1 = -1 := by kernel_rfl
theorem ck_hidden : hiddenB ckL1 = false := by kernel_rfl
theorem ck_goal : kwOf bGoal = some ⟨bGoal, 2, true, false⟩ := by kernel_rfl
end

section
open Go.RowKit

/-- what is cut out of a list of rules -/
theorem SlR.sub_ {p : Nat → Prop} {w : World} {a : Option Addr} {n c A B : Nat} {l : List Ru} (h : SlR p w (.slice a n c) l) (hA : A ≤ B) (hB : B ≤ n) :
    SlR p w (.slice (if c = A then a else a.map (·.add (A * 3))) (B - A) (c - A)) ((l.take B).drop A) := by
  obtain ⟨css, h1, h2, h3⟩ := h
  refine ⟨(css.take B).drop A, Sl.drop (Sl.take h1 hB) hA, by simp [h2], fun i cs x h4 h5 => ?_⟩
  rw [List.getElem?_drop, List.getElem?_take] at h4 h5
  split at h4
  · rename_i hlt
    rw [if_pos hlt] at h5
    exact h3 _ cs x h4 h5
  · cases h4

theorem SlR.take_ {p : Nat → Prop} {w : World} {a : Option Addr} {n c B : Nat} {l : List Ru} (h : SlR p w (.slice a n c) l) (hB : B ≤ n) : SlR p w (.slice a B c) (l.take B) := by
  obtain ⟨css, h1, h2, h3⟩ := h
  refine ⟨css.take B, Sl.take h1 hB, by simp [h2], fun i cs x h4 h5 => ?_⟩
  rw [List.getElem?_take] at h4 h5
  split at h4
  · rename_i hlt
    rw [if_pos hlt] at h5
    exact h3 _ cs x h4 h5
  · cases h4

set_option maxRecDepth 100000 in
set_option maxHeartbeats 8000000 in
theorem law11awake (w : World) (hK : KwAt w) : Calls Tryz.prog 11 #[] w fun e w' => e = .returned (.bool true) ∧ Ch [] w w' := by
  have hrd := read_ ckS1 w ck_size1
  rw [ck_read1] at hrd
  have hrd2 := fun wz => read_ ckS2 wz ck_size2
  rw [ck_read2] at hrd2
  have hro := fun p v wz hz => roles_ p v ckL1 wz 1000 4 hz ck_ok1 (by decide)
  rw [ck_roles] at hro
  have hch := fun p v wz hz => chance_ p v ckL1 wz 1000 4 hz ck_ok1 (by decide)
  rw [ck_chance] at hch
  have hhd := fun p v wz hz => hidden_ p v ckL1 wz hz
  rw [ck_hidden] at hhd
  have hkw := fun wz hz => keyword_ bGoal wz hz
  rw [ck_goal] at hkw
  have hr1 := fun p v wz hk hz => chRules_ p v ((ckL1.take 4).drop 1) wz 1000 4 hk hz (fun r hr => ck_ok1 r (List.mem_of_mem_take (List.mem_of_mem_drop hr))) (by decide)
  rw [ck_r1] at hr1
  have hr2 := fun p v wz hk hz => chRules_ p v ckL2 wz 1000 4 hk hz ck_ok2 (by decide)
  rw [ck_r2] at hr2
  have hr3 := fun p v wz hk hz => chRules_ p v ((ckL2.take 2).drop 0) wz 1000 4 hk hz (fun r hr => ck_ok2 r (List.mem_of_mem_take (List.mem_of_mem_drop hr))) (by decide)
  rw [ck_r3] at hr3
  simp only [List.drop_zero] at hr3
  have hu := fun p vh vb wz hk hz hy => chRule_ ⟨.mk bP [.mk bXX []], [⟨true, .mk bQ [.mk bXX []]⟩]⟩ p vh vb wz 1000 4 hk hz hy (ck_ok1 _ (by simp [ckL1]))
  rw [ck_u] at hu
  simp only [kwA, Option.isSome] at hkw
  simp only [Tm.name, Tm.args] at hu
  have HK := Lib.hid hK
  go_enter Tryz.func11, Tryz.ntmps11
  go_wp2_with (first
    | (go_at_call 27; refine hrd.mono ?_; rintro e w1 ⟨v1, rfl, h1, hB⟩; clear hrd; obtain ⟨a1, c1, rfl, hl1, hm1⟩ := h1.form; obtain ⟨b1, o1, rfl⟩ : ∃ b o, a1 = some ⟨b, o, none⟩ := (by obtain ⟨b, o, _, _, _, _, e, _⟩ := h1.at_ (i := 0) (by decide); exact ⟨b, o, e⟩); replace h1 : SlR _ w1 (.slice (some ⟨b1, o1, none⟩) 4 c1) ckL1 := h1; replace hl1 : 4 ≤ c1 := hl1; have hn1 : ¬ c1 = 1 := (by omega); rw [show ckL1.length = 4 from rfl])
    | (go_at_call 27; refine (hrd2 _).mono ?_; clear hrd2; rintro e w2 ⟨v2, rfl, h2, hc⟩; obtain ⟨a2, c2, rfl, hl2, hm2⟩ := h2.form; replace h2 : SlR _ w2 (.slice a2 3 c2) ckL2 := h2; replace hl2 : 3 ≤ c2 := hl2; have hn2 : ¬ c2 = 0 := (by omega); rw [show ckL2.length = 3 from rfl]; replace hB := hB.trans hc; replace h1 := h1.ch0 hc; clear hc; have hs1 := h1.sub_ (A := 1) (B := 4) (by omega) (by omega); rw [if_neg hn1] at hs1; simp only [Option.map_some, add_off, Nat.one_mul] at hs1; replace hs1 : SlR _ w2 (.slice (some ⟨b1, o1 + 3, none⟩) 3 (c1 - 1)) _ := hs1; have hs2 := h2.take_ (B := 2) (by omega))
    | (go_at_call 16; with_reducible refine (hr1 _ _ _ (HK.out.ch hB) hs1).mono ?_; clear hr1 hs1; rintro e w3 ⟨rfl, hc⟩; replace hB := hB.trans hc; replace h1 := h1.ch0 hc; replace h2 := h2.ch0 hc; replace hs2 := hs2.ch0 hc; clear hc)
    | (go_at_call 16; with_reducible refine (hr2 _ _ _ (HK.out.ch hB) h2).mono ?_; clear hr2; rintro e w4 ⟨rfl, hc⟩; replace hB := hB.trans hc; replace h1 := h1.ch0 hc; replace hs2 := hs2.ch0 hc; clear hc h2)
    | (go_at_call 16; with_reducible refine (hr3 _ _ _ (HK.out.ch hB) hs2).mono ?_; clear hr3 hs2; rintro e w5 ⟨rfl, hc⟩; replace hB := hB.trans hc; replace h1 := h1.ch0 hc; clear hc)
    | (go_at_call 9; refine (hkw _ (HK.out.ch hB)).mono ?_; clear hkw; rintro e w6 ⟨rfl, hc⟩; replace hB := hB.trans hc; replace h1 := h1.ch0 hc; clear hc; obtain ⟨b1', o1', a', c', a'', c'', e1, hp, z0, z1, z2, hT, hL⟩ := h1.at_ (i := 0) (by decide); injection e1 with e1; injection e1 with e1 e2; subst e1 e2; rw [Nat.zero_mul, Nat.add_zero] at z0 z1 z2; replace z0 : w6.cell? ⟨b1, o1, none⟩ = some (.string bP) := z0; replace z1 : w6.cell? ⟨b1, o1 + 1, none⟩ = some (.slice a' 1 c') := z1; replace z2 : w6.cell? ⟨b1, o1 + 2, none⟩ = some (.slice a'' 1 c'') := z2)
    | (go_at_call 13; with_reducible refine (hu _ _ _ _ (HK.out.ch hB) hT hL).mono ?_; clear hu; rintro e w7 ⟨rfl, hc⟩; replace hB := hB.trans hc; replace h1 := h1.ch0 hc; clear hc hT hL z0 z1 z2)
    | (go_at_call 19; refine (hro _ _ _ h1).mono ?_; clear hro; rintro e w8 ⟨v8, rfl, ho8, hc⟩; obtain ⟨a8, c8, rfl, _, _⟩ := ho8.slt.form; replace hB := hB.trans hc; replace h1 := h1.ch0 hc; clear hc ho8; rw [show [Tm.mk bX []].length = 1 from rfl])
    | (go_at_call 21; refine (hch _ _ _ h1).mono ?_; clear hch; rintro e w9 ⟨rfl, hc⟩; replace hB := hB.trans hc; replace h1 := h1.ch0 hc; clear hc)
    | (go_at_call 23; refine (hhd _ _ _ h1).mono ?_; clear hhd; rintro e w10 ⟨rfl, hc⟩; replace hB := hB.trans hc; clear hc h1))
  go_ret
  exact ⟨rfl, hB⟩
end
end Go.Proofs.YtbongbknciibiaaGreatDoor
