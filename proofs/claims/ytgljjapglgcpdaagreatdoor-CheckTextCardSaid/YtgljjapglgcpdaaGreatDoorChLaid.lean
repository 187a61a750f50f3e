
/-
  The examples of law11's awake, in plain lists: what is read, and what the functions of layer 11 answer on it. No program is in sight here.
  law11's awake returns true, wherever check.keywords is laid.
  The contract of the reference's Keyword (PRINTED BY wip/gen/refkw.py).
  The package's variable check.keywords, as the rows of this chapter list it: what the walks take of it; that a start meets it. And law11.CheckKeywords.
-/
import Derived.Test.YtgljjapglgcpdaaGreatDoorAwk
import Derived.Test.YtgljjapglgcpdaaGreatDoorChPlain
import Derived.Test.YtgljjapglgcpdaaGreatDoorChRls
import Derived.Test.YtgljjapglgcpdaaGreatDoorChFind
import Derived.Test.YtgljjapglgcpdaaGreatDoorRead
import Derived.Test.YtgljjapglgcpdaaGreatDoorRows
import Derived.Test.YtgljjapglgcpdaaGreatDoorOpen
import Derived.ProofKit
import Derived.LaidMore
import Derived.OpenShut
import Derived.Stop.Joined
namespace Go.Proofs.YtgljjapglgcpdaaGreatDoor

section
section
def bX : ByteArray := ⟨#[120]⟩
def bXX : ByteArray := ⟨#[88]⟩
def ckS1 : ByteArray := ⟨#[112, 40, 88, 41, 32, 105, 102, 32, 110, 111, 116, 32, 113, 40, 88, 41, 46, 32, 114, 111, 108, 101, 40, 120, 41, 46, 32, 112, 40, 97, 41, 46, 32, 112, 46]⟩
def ckS2 : ByteArray := ⟨#[114, 111, 108, 101, 40, 120, 41, 46, 32, 108, 101, 103, 97, 108, 40, 120, 44, 32, 97, 41, 32, 105, 102, 32, 112, 46, 32, 112, 32, 105, 102, 32, 100, 111, 101, 115, 40, 120, 44, 32, 97, 41, 46]⟩
def ckL1 : List Ru := [⟨.mk bP [.mk bXX []], [⟨true, .mk bQ [.mk bXX []]⟩]⟩, ⟨.mk bRole [.mk bX []], []⟩, ⟨.mk bP [.mk bA []], []⟩, ⟨.mk bP [], []⟩]
def ckL2 : List Ru := [⟨.mk bRole [.mk bX []], []⟩, ⟨.mk bLegal [.mk bX [], .mk bA []], [⟨false, .mk bP []⟩]⟩, ⟨.mk bP [], [⟨false, .mk bDoes [.mk bX [], .mk bA []]⟩]⟩]
theorem ck_read1 : pRead ckS1 (ckS1.size + 1) 0 = ckL1 := by kernel_rfl
theorem ck_read2 : pRead ckS2 (ckS2.size + 1) 0 = ckL2 := by kernel_rfl
theorem ck_size1 : ckS1.size ≤ 1000000000 := by decide
theorem ck_size2 : ckS2.size ≤ 1000000000 := by decide
theorem ck_ok1 : ∀ r ∈ ckL1, RuOk 1000 4 r := by
  intro r hr
  simp only [ckL1, List.mem_cons, List.not_mem_nil, or_false] at hr
  rcases hr with rfl | rfl | rfl | rfl
  all_goals refine ⟨?_, ?_, by simp, by unfold maxLen; omega⟩
  all_goals (intro t ht; simp only [atomsOf, List.map_cons, List.map_nil, List.mem_cons, List.not_mem_nil, or_false] at ht)
  all_goals first | (rcases ht with rfl | rfl) | subst ht
  all_goals (simp only [Nice, NiceL, Tm.sz, szs]; decide)
theorem ck_ok2 : ∀ r ∈ ckL2, RuOk 1000 4 r := by
  intro r hr
  simp only [ckL2, List.mem_cons, List.not_mem_nil, or_false] at hr
  rcases hr with rfl | rfl | rfl
  all_goals refine ⟨?_, ?_, by simp, by unfold maxLen; omega⟩
  all_goals (intro t ht; simp only [atomsOf, List.map_cons, List.map_nil, List.mem_cons, List.not_mem_nil, or_false] at ht)
  all_goals first | (rcases ht with rfl | rfl) | subst ht
  all_goals (simp only [Nice, NiceL, Tm.sz, szs]; decide)
theorem rulesE_diff {l : List Ru} {d : Int} (h1 : ¬ 128 < l.length) (h2 : eachGo 0 l = none) (h3 : diffOf l = d) (h4 : 0 ≤ d) : rulesE l = (d, 5) := by
  unfold rulesE; rw [if_neg h1, h2]; simp only; rw [h3, if_pos h4]
theorem rulesE_dep {l : List Ru} (h1 : ¬ 128 < l.length) (h2 : eachGo 0 l = none) (h3 : diffOf l = -1) (h4 : rolesBad l = false) (h5 : depsB (edgesOf l) = true) : rulesE l = (0, 9) := by
  unfold rulesE; rw [if_neg h1, h2]; simp only; rw [h3, if_neg (by omega), if_neg (by simp [h4]), if_pos h5]
theorem ck_r1 : rulesE ((ckL1.take 4).drop 1) = (2, 5) := rulesE_diff (by decide) (by kernel_rfl) (by kernel_rfl) (by omega)
theorem ck_e2 : edgesOf ckL2 = [⟨bLegal, bP, false⟩, ⟨bP, bDoes, false⟩] := by kernel_rfl
theorem ck_r2 : rulesE ckL2 = (0, 9) := by
  refine rulesE_dep (by decide) (by kernel_rfl) (by kernel_rfl) (by kernel_rfl) ?_
  rw [ck_e2]
  have : onB [⟨bLegal, bP, false⟩, ⟨bP, bDoes, false⟩] bLegal bDoes = true := by
    simp only [onB, hasS, decide_eq_true_eq, mem_reachOf]
    exact .step (e := ⟨bP, bDoes, false⟩) (.one (e := ⟨bLegal, bP, false⟩) (by simp) rfl) (by simp) rfl
  unfold depsB
  rw [this]; simp
theorem ck_e3 : edgesOf ((ckL2.take 2).drop 0) = [⟨bLegal, bP, false⟩] := by kernel_rfl
theorem ck_r3 : rulesE ((ckL2.take 2).drop 0) = (0, 0) := by
  refine rulesE_of (by decide) ((eachGo_none _ 0).1 (by kernel_rfl)) ((diffOf_none _).1 (by kernel_rfl)) (by kernel_rfl) ?_ ?_
  · rw [ck_e3]
    have key : ∀ f t, bP ≠ t → onB [⟨bLegal, bP, false⟩] f t = false := by
      intro f t hne
      simp only [onB, hasS, decide_eq_false_iff_not, mem_reachOf]
      intro h
      obtain ⟨e, he, h2⟩ := h.target
      simp only [List.mem_cons, List.not_mem_nil, or_false] at he
      subst he
      exact hne h2
    have n1 : bP ≠ bTrue := neB (by kernel_rfl)
    have n2 : bP ≠ bDoes := neB (by kernel_rfl)
    unfold depsB
    rw [key _ _ n1, key _ _ n2, key _ _ n2, key _ _ n2, key _ _ n2]; rfl
  · rw [ck_e3]
    refine ⟨fun _ => 0, fun e he => ?_⟩
    simp only [List.mem_cons, List.not_mem_nil, or_false] at he
    subst he
    simp [stepN]
theorem ck_u : ruleE ⟨.mk bP [.mk bXX []], [⟨true, .mk bQ [.mk bXX []]⟩]⟩ = 7 := by kernel_rfl
theorem ck_roles : rolesOf ckL1 = [.mk bX []] := by kernel_rfl
theorem ck_chance : chanceOf ckL1 = -1 := by kernel_rfl
theorem ck_hidden : hiddenB ckL1 = false := by kernel_rfl
theorem ck_goal : kwOf bGoal = some ⟨bGoal, 2, true, false⟩ := by kernel_rfl
end

section
open Go.RowKit

/-- what is cut out of a list of rules -/
theorem SlR.sub_ {p : Nat → Prop} {w : World} {a : Option Addr} {n c A B : Nat} {l : List Ru} (h : SlR p w (.slice a n c) l) (hA : A ≤ B) (hB : B ≤ n) :
    SlR p w (.slice (if c = A then a else a.map (·.add (A * 3))) (B - A) (c - A)) ((l.take B).drop A) := by
  obtain ⟨css, h1, h2, h3⟩ := h
  refine ⟨(css.take B).drop A, Sl.drop (Sl.take h1 hB) hA, by simp [h2], fun i cs x h4 h5 => ?_⟩
  rw [List.getElem?_drop, List.getElem?_take] at h4 h5
  split at h4
  · rename_i hlt
    rw [if_pos hlt] at h5
    exact h3 _ cs x h4 h5
  · cases h4

theorem SlR.take_ {p : Nat → Prop} {w : World} {a : Option Addr} {n c B : Nat} {l : List Ru} (h : SlR p w (.slice a n c) l) (hB : B ≤ n) : SlR p w (.slice a B c) (l.take B) := by
  obtain ⟨css, h1, h2, h3⟩ := h
  refine ⟨css.take B, Sl.take h1 hB, by simp [h2], fun i cs x h4 h5 => ?_⟩
  rw [List.getElem?_take] at h4 h5
  split at h4
  · rename_i hlt
    rw [if_pos hlt] at h5
    exact h3 _ cs x h4 h5
  · cases h4

set_option maxRecDepth 100000 in
set_option maxHeartbeats 8000000 in
theorem law11awake (w : World) (hK : KwAt w) : Calls Tryz.prog 5 #[] w fun e w' => e = .returned (.bool true) ∧ Ch [] w w' := by
  have hrd := read_ ckS1 w ck_size1
  rw [ck_read1] at hrd
  have hrd2 := fun wz => read_ ckS2 wz ck_size2
  rw [ck_read2] at hrd2
  have hro := fun p v wz hz => roles_ p v ckL1 wz 1000 4 hz ck_ok1 (by decide)
  rw [ck_roles] at hro
  have hch := fun p v wz hz => chance_ p v ckL1 wz 1000 4 hz ck_ok1 (by decide)
  rw [ck_chance] at hch
  have hhd := fun p v wz hz => hidden_ p v ckL1 wz hz
  rw [ck_hidden] at hhd
  have hkw := fun wz hz => keyword_ bGoal wz hz
  rw [ck_goal] at hkw
  have hr1 := fun p v wz hk hz => chRules_ p v ((ckL1.take 4).drop 1) wz 1000 4 hk hz (fun r hr => ck_ok1 r (List.mem_of_mem_take (List.mem_of_mem_drop hr))) (by decide)
  rw [ck_r1] at hr1
  have hr2 := fun p v wz hk hz => chRules_ p v ckL2 wz 1000 4 hk hz ck_ok2 (by decide)
  rw [ck_r2] at hr2
  have hr3 := fun p v wz hk hz => chRules_ p v ((ckL2.take 2).drop 0) wz 1000 4 hk hz (fun r hr => ck_ok2 r (List.mem_of_mem_take (List.mem_of_mem_drop hr))) (by decide)
  rw [ck_r3] at hr3
  simp only [List.drop_zero] at hr3
  have hu := fun p vh vb wz hk hz hy => chRule_ ⟨.mk bP [.mk bXX []], [⟨true, .mk bQ [.mk bXX []]⟩]⟩ p vh vb wz 1000 4 hk hz hy (ck_ok1 _ (by simp [ckL1]))
  rw [ck_u] at hu
  simp only [kwA, Option.isSome] at hkw
  simp only [Tm.name, Tm.args] at hu
  have HK := Lib.hid hK
  go_enter Tryz.func5, Tryz.ntmps5
  go_wp2_with (first
    | (go_at_call 12; refine hrd.mono ?_; rintro e w1 ⟨v1, rfl, h1, hB⟩; clear hrd; obtain ⟨a1, c1, rfl, hl1, hm1⟩ := h1.form; obtain ⟨b1, o1, rfl⟩ : ∃ b o, a1 = some ⟨b, o, none⟩ := (by obtain ⟨b, o, _, _, _, _, e, _⟩ := h1.at_ (i := 0) (by decide); exact ⟨b, o, e⟩); replace h1 : SlR _ w1 (.slice (some ⟨b1, o1, none⟩) 4 c1) ckL1 := h1; replace hl1 : 4 ≤ c1 := hl1; have hn1 : ¬ c1 = 1 := (by omega); rw [show ckL1.length = 4 from rfl])
    | (go_at_call 12; refine (hrd2 _).mono ?_; clear hrd2; rintro e w2 ⟨v2, rfl, h2, hc⟩; obtain ⟨a2, c2, rfl, hl2, hm2⟩ := h2.form; replace h2 : SlR _ w2 (.slice a2 3 c2) ckL2 := h2; replace hl2 : 3 ≤ c2 := hl2; have hn2 : ¬ c2 = 0 := (by omega); rw [show ckL2.length = 3 from rfl]; replace hB := hB.trans hc; replace h1 := h1.ch0 hc; clear hc; have hs1 := h1.sub_ (A := 1) (B := 4) (by omega) (by omega); rw [if_neg hn1] at hs1; simp only [Option.map_some, add_off, Nat.one_mul] at hs1; replace hs1 : SlR _ w2 (.slice (some ⟨b1, o1 + 3, none⟩) 3 (c1 - 1)) _ := hs1; have hs2 := h2.take_ (B := 2) (by omega))
    | (go_at_call 8; with_reducible refine (hr1 _ _ _ (HK.out.ch hB) hs1).mono ?_; clear hr1 hs1; rintro e w3 ⟨rfl, hc⟩; replace hB := hB.trans hc; replace h1 := h1.ch0 hc; replace h2 := h2.ch0 hc; replace hs2 := hs2.ch0 hc; clear hc)
    | (go_at_call 8; with_reducible refine (hr2 _ _ _ (HK.out.ch hB) h2).mono ?_; clear hr2; rintro e w4 ⟨rfl, hc⟩; replace hB := hB.trans hc; replace h1 := h1.ch0 hc; replace hs2 := hs2.ch0 hc; clear hc h2)
    | (go_at_call 8; with_reducible refine (hr3 _ _ _ (HK.out.ch hB) hs2).mono ?_; clear hr3 hs2; rintro e w5 ⟨rfl, hc⟩; replace hB := hB.trans hc; replace h1 := h1.ch0 hc; clear hc)
    | (go_at_call 13; refine (hkw _ (HK.out.ch hB)).mono ?_; clear hkw; rintro e w6 ⟨rfl, hc⟩; replace hB := hB.trans hc; replace h1 := h1.ch0 hc; clear hc; obtain ⟨b1', o1', a', c', a'', c'', e1, hp, z0, z1, z2, hT, hL⟩ := h1.at_ (i := 0) (by decide); injection e1 with e1; injection e1 with e1 e2; subst e1 e2; rw [Nat.zero_mul, Nat.add_zero] at z0 z1 z2; replace z0 : w6.cell? ⟨b1, o1, none⟩ = some (.string bP) := z0; replace z1 : w6.cell? ⟨b1, o1 + 1, none⟩ = some (.slice a' 1 c') := z1; replace z2 : w6.cell? ⟨b1, o1 + 2, none⟩ = some (.slice a'' 1 c'') := z2)
    | (go_at_call 7; with_reducible refine (hu _ _ _ _ (HK.out.ch hB) hT hL).mono ?_; clear hu; rintro e w7 ⟨rfl, hc⟩; replace hB := hB.trans hc; replace h1 := h1.ch0 hc; clear hc hT hL z0 z1 z2)
    | (go_at_call 14; refine (hro _ _ _ h1).mono ?_; clear hro; rintro e w8 ⟨v8, rfl, ho8, hc⟩; obtain ⟨a8, c8, rfl, _, _⟩ := ho8.slt.form; replace hB := hB.trans hc; replace h1 := h1.ch0 hc; clear hc ho8; rw [show [Tm.mk bX []].length = 1 from rfl])
    | (go_at_call 15; refine (hch _ _ _ h1).mono ?_; clear hch; rintro e w9 ⟨rfl, hc⟩; replace hB := hB.trans hc; replace h1 := h1.ch0 hc; clear hc)
    | (go_at_call 16; refine (hhd _ _ _ h1).mono ?_; clear hhd; rintro e w10 ⟨rfl, hc⟩; replace hB := hB.trans hc; clear hc h1))
  go_ret
  exact ⟨rfl, hB⟩
end
end

section
section
open Go.RowKit

theorem kwe_role (s : ByteArray) : (s.toList == [114, 111, 108, 101]) = decide (s = ⟨#[114, 111, 108, 101]⟩) := by
  have : (⟨#[114, 111, 108, 101]⟩ : ByteArray).toList = [114, 111, 108, 101] := by rw [ByteArray.toList_eq]
  have h := beqS s ⟨#[114, 111, 108, 101]⟩
  rw [this] at h
  exact h
theorem kwe_init (s : ByteArray) : (s.toList == [105, 110, 105, 116]) = decide (s = ⟨#[105, 110, 105, 116]⟩) := by
  have : (⟨#[105, 110, 105, 116]⟩ : ByteArray).toList = [105, 110, 105, 116] := by rw [ByteArray.toList_eq]
  have h := beqS s ⟨#[105, 110, 105, 116]⟩
  rw [this] at h
  exact h
theorem kwe_true (s : ByteArray) : (s.toList == [116, 114, 117, 101]) = decide (s = ⟨#[116, 114, 117, 101]⟩) := by
  have : (⟨#[116, 114, 117, 101]⟩ : ByteArray).toList = [116, 114, 117, 101] := by rw [ByteArray.toList_eq]
  have h := beqS s ⟨#[116, 114, 117, 101]⟩
  rw [this] at h
  exact h
theorem kwe_does (s : ByteArray) : (s.toList == [100, 111, 101, 115]) = decide (s = ⟨#[100, 111, 101, 115]⟩) := by
  have : (⟨#[100, 111, 101, 115]⟩ : ByteArray).toList = [100, 111, 101, 115] := by rw [ByteArray.toList_eq]
  have h := beqS s ⟨#[100, 111, 101, 115]⟩
  rw [this] at h
  exact h
theorem kwe_legal (s : ByteArray) : (s.toList == [108, 101, 103, 97, 108]) = decide (s = ⟨#[108, 101, 103, 97, 108]⟩) := by
  have : (⟨#[108, 101, 103, 97, 108]⟩ : ByteArray).toList = [108, 101, 103, 97, 108] := by rw [ByteArray.toList_eq]
  have h := beqS s ⟨#[108, 101, 103, 97, 108]⟩
  rw [this] at h
  exact h
theorem kwe_next (s : ByteArray) : (s.toList == [110, 101, 120, 116]) = decide (s = ⟨#[110, 101, 120, 116]⟩) := by
  have : (⟨#[110, 101, 120, 116]⟩ : ByteArray).toList = [110, 101, 120, 116] := by rw [ByteArray.toList_eq]
  have h := beqS s ⟨#[110, 101, 120, 116]⟩
  rw [this] at h
  exact h
theorem kwe_terminal (s : ByteArray) : (s.toList == [116, 101, 114, 109, 105, 110, 97, 108]) = decide (s = ⟨#[116, 101, 114, 109, 105, 110, 97, 108]⟩) := by
  have : (⟨#[116, 101, 114, 109, 105, 110, 97, 108]⟩ : ByteArray).toList = [116, 101, 114, 109, 105, 110, 97, 108] := by rw [ByteArray.toList_eq]
  have h := beqS s ⟨#[116, 101, 114, 109, 105, 110, 97, 108]⟩
  rw [this] at h
  exact h
theorem kwe_goal (s : ByteArray) : (s.toList == [103, 111, 97, 108]) = decide (s = ⟨#[103, 111, 97, 108]⟩) := by
  have : (⟨#[103, 111, 97, 108]⟩ : ByteArray).toList = [103, 111, 97, 108] := by rw [ByteArray.toList_eq]
  have h := beqS s ⟨#[103, 111, 97, 108]⟩
  rw [this] at h
  exact h
theorem kwe_sees (s : ByteArray) : (s.toList == [115, 101, 101, 115]) = decide (s = ⟨#[115, 101, 101, 115]⟩) := by
  have : (⟨#[115, 101, 101, 115]⟩ : ByteArray).toList = [115, 101, 101, 115] := by rw [ByteArray.toList_eq]
  have h := beqS s ⟨#[115, 101, 101, 115]⟩
  rw [this] at h
  exact h
theorem kwe_distinct (s : ByteArray) : (s.toList == [100, 105, 115, 116, 105, 110, 99, 116]) = decide (s = ⟨#[100, 105, 115, 116, 105, 110, 99, 116]⟩) := by
  have : (⟨#[100, 105, 115, 116, 105, 110, 99, 116]⟩ : ByteArray).toList = [100, 105, 115, 116, 105, 110, 99, 116] := by rw [ByteArray.toList_eq]
  have h := beqS s ⟨#[100, 105, 115, 116, 105, 110, 99, 116]⟩
  rw [this] at h
  exact h

end

section
open Go.ChangeShapes Go.WideShapes Go.ChangeAt Go.RowKit

def kwLaid : List (String × DataW Unit) := [("gameplayer/check.keywords", Rows.laid_gameplayer_check_keywords)]
theorem gKw : Tryz.prog.globalNamed "gameplayer/check.keywords" = some 0 := by kernel_rfl
theorem tKw : (Tryz.prog.globals[0]?).map (·.type) = some 129 := by kernel_rfl
theorem cells_kw : Tryz.prog.cellsOf 81 = 4 := by kernel_rfl
theorem cells_s1 : Tryz.prog.cellsOf 9 = 1 := by kernel_rfl
theorem cells_i1 : Tryz.prog.cellsOf 3 = 1 := by kernel_rfl
theorem cells_b1 : Tryz.prog.cellsOf 4 = 1 := by kernel_rfl
def kwD (k : Kw) : DataW Unit := .agg [.lit (.string k.n.data.toList), .lit (.int .i64 k.a), .lit (.bool k.h), .lit (.bool k.b)]
theorem laid_kws : (Rows.laid_gameplayer_check_keywords : DataW Unit) = .agg (kws.map kwD) := rfl

/-- The door's own heap meets the condition. -/
theorem door_met (os : Os) (args : Array Value) : laidMetH Tryz.prog kwLaid ((World.doorLaid Tryz.prog 400 os).forCall (fun _ _ => 0) ⟨#[], args, []⟩).memory :=
  laidMetH_of_parts3 (fuel := 8) (laidMet_of_run' 8 (by kernel_rfl) (by kernel_rfl)) (by kernel_rfl) (by kernel_rfl)

set_option maxRecDepth 100000 in
theorem kw_elem {enc : TypeId × Value → Unit} {W : World} {sp : Nat → Bool} {held : Bool} {n : Nat} {cs : List Value} {x : DataW Unit × List MemPlace} {k : Kw}
    (h : DataW.trod enc Tryz.prog W 0 sp held n 81 cs = some x) (hx : x.1 = kwD k) : cs = encK k := by
  obtain ⟨xs, m, rfl, hy, hl, hxs, hall⟩ := DataW.trod_struct Tryz.underlying81 h
  rw [cells_kw] at hl
  obtain ⟨c0, c1, c2, c3, rfl⟩ : ∃ c0 c1 c2 c3, cs = [c0, c1, c2, c3] := by
    match cs, hl with
    | [c0, c1, c2, c3], _ => exact ⟨_, _, _, _, rfl⟩
  have a0 : DataW.trod enc Tryz.prog W 0 sp held m 9 [c0] = xs[0]? := by have := hall 0 _ rfl; simpa [cells_s1] using this
  have a1 : DataW.trod enc Tryz.prog W 0 sp held m 3 [c1] = xs[1]? := by have := hall 1 _ rfl; simpa [cells_i1] using this
  have a2 : DataW.trod enc Tryz.prog W 0 sp held m 4 [c2] = xs[2]? := by have := hall 2 _ rfl; simpa [cells_b1] using this
  have a3 : DataW.trod enc Tryz.prog W 0 sp held m 4 [c3] = xs[3]? := by have := hall 3 _ rfl; simpa [cells_b1] using this
  have hx4 : xs.length = 4 := hxs
  obtain ⟨x0, x1, x2, x3, rfl⟩ : ∃ x0 x1 x2 x3, xs = [x0, x1, x2, x3] := by
    match xs, hx4 with
    | [x0, x1, x2, x3], _ => exact ⟨_, _, _, _, rfl⟩
  simp only [List.getElem?_cons_zero, List.getElem?_cons_succ] at a0 a1 a2 a3
  obtain ⟨s, e0, f0, _⟩ := DataW.trod_string Tryz.underlying9 a0
  obtain ⟨i, e1, f1, _⟩ := DataW.trod_int Tryz.underlying3 a1
  obtain ⟨b, e2, f2⟩ := DataW.trod_bool Tryz.underlying4 a2
  obtain ⟨d, e3, f3⟩ := DataW.trod_bool Tryz.underlying4 a3
  subst f0 f1 f2 f3
  rw [hy] at hx
  simp only [kwD, List.map_cons, List.map_nil, DataW.agg.injEq, List.cons.injEq, DataW.lit.injEq, Lit.string.injEq, Lit.int.injEq, Lit.bool.injEq, and_true, true_and] at hx
  obtain ⟨q0, q1, q2, q3⟩ := hx
  injection e0 with e0
  injection e1 with e1
  injection e2 with e2
  injection e3 with e3
  subst e0 e1 e2 e3
  have : s = k.n := by
    apply ByteArray.ext
    apply Array.toList_inj.1 q0
  subst this q1 q2 q3
  rfl
set_option maxRecDepth 100000 in
theorem of_laid {W : World} (h : laidMetH Tryz.prog kwLaid W) : KwAt W := by
  rw [MakeChecks.laidMetH_plain _ _ _ (by kernel_rfl)] at h
  obtain ⟨ps, ⟨g0, t0, cs0, f0, p0, q0, hg0, ht0, hv0, hd0, _, _⟩, _⟩ := h
  obtain rfl := Option.some.inj (gKw.symm.trans hg0)
  obtain rfl := Option.some.inj (tKw.symm.trans ht0)
  rw [laid_kws] at hd0
  obtain ⟨xs, m1, rfl, hx1, hlen, hn3, hel⟩ := DataW.trod_array Tryz.underlying129 hd0
  have hk10 : kws.length = 10 := rfl
  simp only [Prod.mk.injEq, DataW.agg.injEq] at hx1
  have hx := hx1.1
  have each : ∀ (i : Nat) (hi : i < kws.length), (cs0.toList.drop (i * 4)).take 4 = encK kws[i] := by
    intro i hi
    have h1 := hel i (by omega)
    rw [cells_kw, List.getElem?_eq_getElem (by omega)] at h1
    refine kw_elem h1 ?_
    have h2 : (kws.map kwD)[i]? = (xs.map (·.1))[i]? := by rw [hx]
    rw [List.getElem?_map, List.getElem?_map, List.getElem?_eq_getElem hi, List.getElem?_eq_getElem (by omega)] at h2
    simp only [Option.map_some, Option.some.injEq] at h2
    exact h2.symm
  have cell : ∀ i, W.cell? ⟨0, i, none⟩ = cs0[i]? := fun i => World.var?_cell hg0 hv0 i
  refine ⟨some ⟨0, 0, none⟩, 10, rfl, by simp [hk10], by decide, fun i cs hi => ?_⟩
  obtain ⟨hi', e⟩ := List.getElem?_eq_some_iff.1 hi
  rw [List.length_map] at hi'
  rw [List.getElem_map] at e
  subst e
  have hc : ∀ (j : Nat) (u : Value), (encK kws[i])[j]? = some u → W.cell? ⟨0, 0 + (i * 4 + j), none⟩ = some u := by
    intro j u hu
    have hj : j < 4 := (List.getElem?_eq_some_iff.1 hu).1
    rw [Nat.zero_add, cell, ← Array.getElem?_toList]
    have h1 := each i hi'
    rw [← h1, List.getElem?_take, if_pos hj, List.getElem?_drop] at hu
    exact hu
  refine ⟨⟨rfl, by simp [encK, Value.oneCell']⟩, 0, 0, rfl, ⟨rfl, ?_⟩, hc⟩
  have := hc 0 (.string kws[i].n) rfl
  exact lt_of_cell this

end
end
end Go.Proofs.YtgljjapglgcpdaaGreatDoor
