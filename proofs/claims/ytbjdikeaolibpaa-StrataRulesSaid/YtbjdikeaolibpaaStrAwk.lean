/-
  The examples of law10's awake, in plain lists: what is read, and what the functions answer on it. No program is in sight here.
-/
import Derived.Test.YtbjdikeaolibpaaStrPlain
import Derived.Test.YtbjdikeaolibpaaAwk
namespace Go.Proofs.Ytbjdikeaolibpaa

/-- "p if not q. q if not r." -/
def sgS : ByteArray := ⟨#[112, 32, 105, 102, 32, 110, 111, 116, 32, 113, 46, 32, 113, 32, 105, 102, 32, 110, 111, 116, 32, 114, 46]⟩
def sgL : List Ru := [⟨.mk bP [], [⟨true, .mk bQ []⟩]⟩, ⟨.mk bQ [], [⟨true, .mk bR []⟩]⟩]
def sgE : List Ed := [⟨bP, bQ, true⟩, ⟨bQ, bR, true⟩]
def sgV : List Lv := [⟨bP, 2⟩, ⟨bQ, 1⟩, ⟨bR, 0⟩]
theorem sg_read : pRead sgS (sgS.size + 1) 0 = sgL := by kernel_rfl
theorem sg_size : sgS.size ≤ 1000000000 := by decide
theorem sg_rels : relsOf sgL = [bP, bQ, bR] := by kernel_rfl
theorem sg_edges : edgesOf sgL = sgE := by kernel_rfl
/-- "p if not q. q if p." -/
def bdS : ByteArray := ⟨#[112, 32, 105, 102, 32, 110, 111, 116, 32, 113, 46, 32, 113, 32, 105, 102, 32, 112, 46]⟩
def bdL : List Ru := [⟨.mk bP [], [⟨true, .mk bQ []⟩]⟩, ⟨.mk bQ [], [⟨false, .mk bP []⟩]⟩]
def bdE : List Ed := [⟨bP, bQ, true⟩, ⟨bQ, bP, false⟩]
theorem bd_read : pRead bdS (bdS.size + 1) 0 = bdL := by kernel_rfl
theorem bd_size : bdS.size ≤ 1000000000 := by decide
theorem bd_rels : relsOf bdL = [bP, bQ] := by kernel_rfl
theorem bd_edges : edgesOf bdL = bdE := by kernel_rfl
theorem nePQ : bP ≠ bQ := neB (by kernel_rfl)
theorem nePR : bP ≠ bR := neB (by kernel_rfl)
theorem neQR : bQ ≠ bR := neB (by kernel_rfl)
def sgF : LvF := fun s => if s = bP then 2 else if s = bQ then 1 else 0
theorem sg_strat : Strat sgE sgF := by
  intro e he
  simp only [sgE, List.mem_cons, List.not_mem_nil, or_false] at he
  rcases he with rfl | rfl
  · simp [sgF, stepN, nePQ.symm]
  · simp [sgF, stepN, nePQ.symm, nePR.symm, neQR.symm]
theorem sg_lower : Lower sgE sgF := by
  intro g hg s
  have h1 := hg ⟨bP, bQ, true⟩ (by simp [sgE])
  have h2 := hg ⟨bQ, bR, true⟩ (by simp [sgE])
  simp only [stepN, if_true] at h1 h2
  unfold sgF
  split
  · rename_i h; subst h; omega
  · split
    · rename_i h; subst h; omega
    · omega
theorem sg_list : lvList [bP, bQ, bR] sgF = sgV := by simp [lvList, sgF, sgV, nePQ.symm, nePR.symm, neQR.symm]
theorem sg_ans : LvAns sgE [bP, bQ, bR] (some sgV) := .inl ⟨sgF, sg_strat, sg_lower, by rw [sg_list]⟩
theorem bd_ans : LvAns bdE [bP, bQ] none := by
  refine .inr ⟨?_, rfl⟩
  rintro ⟨g, hg⟩
  have h1 := hg ⟨bP, bQ, true⟩ (by simp [bdE])
  have h2 := hg ⟨bQ, bP, false⟩ (by simp [bdE])
  simp only [stepN, if_true] at h1 h2
  omega
theorem sg_order : orderOf sgV sgL = [[], [1], [0]] := by kernel_rfl
theorem sg_valid : ValidL sgE [bP, bQ, bR] sgV := by
  rw [← sg_list]
  refine valid_list ?_ ?_ sg_strat
  · simp only [Asc, List.pairwise_cons, List.mem_cons, List.not_mem_nil, or_false, forall_eq_or_imp, forall_eq, List.Pairwise.nil, and_true]
    exact ⟨⟨by kernel_rfl, by kernel_rfl⟩, by kernel_rfl, fun _ h => absurd h (by simp)⟩
  · intro e he
    simp only [sgE, List.mem_cons, List.not_mem_nil, or_false] at he
    rcases he with rfl | rfl <;> simp
theorem bd_dst : dst bdE bQ bP = some 1 := by
  refine dst_some.2 ⟨Pth.one (e := ⟨bQ, bP, false⟩) (by simp [bdE]), fun m hm => ?_⟩
  cases m with
  | zero => exact absurd hm.zero nePQ.symm
  | succ m => omega
theorem bd_cyc : cycOf bdE = [bP, bQ] := by
  have h1 : better bdE none ⟨bP, bQ, true⟩ = some (2, ⟨bP, bQ, true⟩) := by
    unfold better
    rw [if_pos rfl]
    simp only [bd_dst]
  have h2 : better bdE (some (2, ⟨bP, bQ, true⟩)) ⟨bQ, bP, false⟩ = some (2, ⟨bP, bQ, true⟩) := by
    unfold better
    rw [if_neg (by simp)]
  have h3 : bestOf bdE bdE = some (2, ⟨bP, bQ, true⟩) := by
    show better bdE (better bdE none ⟨bP, bQ, true⟩) ⟨bQ, bP, false⟩ = _
    rw [h1, h2]
  unfold cycOf
  rw [h3]
  rfl
theorem sg_ofQ : ofL sgV bQ = 1 := by kernel_rfl
theorem sg_ofX : ofL sgV ⟨#[120]⟩ = -1 := by kernel_rfl
end Go.Proofs.Ytbjdikeaolibpaa
