
/-
  The example of law09's awake, in plain lists: what is read, and what the functions answer on it. No program is in sight here.
-/
import Derived.Test.YtgljjapglgcpdaaGreatDoorTrees
import Derived.Test.YtgljjapglgcpdaaGreatDoorGrp
import Derived.KernelRfl
namespace Go.Proofs.YtgljjapglgcpdaaGreatDoor

def bP : ByteArray := ⟨#[112]⟩
def bQ : ByteArray := ⟨#[113]⟩
def bR : ByteArray := ⟨#[114]⟩
def bA : ByteArray := ⟨#[97]⟩
def bB : ByteArray := ⟨#[98]⟩
def awkS : ByteArray := ⟨#[112, 32, 105, 102, 32, 113, 32, 97, 110, 100, 32, 110, 111, 116, 32, 114, 46, 32, 112, 32, 105, 102, 32, 100, 105, 115, 116, 105, 110, 99, 116, 40, 97, 44, 32, 98, 41, 46, 32, 113, 32, 105, 102, 32, 112, 46]⟩
def awkL : List Ru := [⟨.mk bP [], [⟨false, .mk bQ []⟩, ⟨true, .mk bR []⟩]⟩, ⟨.mk bP [], [⟨false, .mk dis [.mk bA [], .mk bB []]⟩]⟩, ⟨.mk bQ [], [⟨false, .mk bP []⟩]⟩]
def awkE : List Ed := [⟨bP, bQ, false⟩, ⟨bP, bR, true⟩, ⟨bQ, bP, false⟩]
theorem awk_read : pRead awkS (awkS.size + 1) 0 = awkL := by kernel_rfl
theorem awk_size : awkS.size ≤ 1000000000 := by decide
theorem awk_heads : headsOf awkL = [bP, bQ] := by kernel_rfl
theorem awk_rels : relsOf awkL = [bP, bQ, bR] := by kernel_rfl
theorem awk_edges : edgesOf awkL = awkE := by kernel_rfl
theorem awk_reachP : reachOf awkE bP = [bP, bQ, bR] := by
  refine (reachOf_eq ?_ ?_ ?_).symm
  · simp only [Asc, List.pairwise_cons, List.mem_cons, List.not_mem_nil, or_false, forall_eq_or_imp, forall_eq, List.Pairwise.nil, and_true]
    exact ⟨⟨by kernel_rfl, by kernel_rfl⟩, by kernel_rfl, fun _ h => absurd h (by simp)⟩
  · have h1 : Rch awkE bP bQ := .one (e := ⟨bP, bQ, false⟩) (by simp [awkE]) rfl
    have h2 : Rch awkE bP bR := .one (e := ⟨bP, bR, true⟩) (by simp [awkE]) rfl
    have h3 : Rch awkE bP bP := .step (e := ⟨bQ, bP, false⟩) h1 (by simp [awkE]) rfl
    intro s hs
    simp only [List.mem_cons, List.not_mem_nil, or_false] at hs
    rcases hs with rfl | rfl | rfl
    · exact h3
    · exact h1
    · exact h2
  · intro e he _
    simp only [awkE, List.mem_cons, List.not_mem_nil, or_false] at he
    rcases he with rfl | rfl | rfl <;> simp
theorem awk_reachQ : reachOf awkE bQ = [bP, bQ, bR] := by
  refine (reachOf_eq ?_ ?_ ?_).symm
  · simp only [Asc, List.pairwise_cons, List.mem_cons, List.not_mem_nil, or_false, forall_eq_or_imp, forall_eq, List.Pairwise.nil, and_true]
    exact ⟨⟨by kernel_rfl, by kernel_rfl⟩, by kernel_rfl, fun _ h => absurd h (by simp)⟩
  · have h3 : Rch awkE bQ bP := .one (e := ⟨bQ, bP, false⟩) (by simp [awkE]) rfl
    have h1 : Rch awkE bQ bQ := .step (e := ⟨bP, bQ, false⟩) h3 (by simp [awkE]) rfl
    have h2 : Rch awkE bQ bR := .step (e := ⟨bP, bR, true⟩) h3 (by simp [awkE]) rfl
    intro s hs
    simp only [List.mem_cons, List.not_mem_nil, or_false] at hs
    rcases hs with rfl | rfl | rfl
    · exact h3
    · exact h1
    · exact h2
  · intro e he _
    simp only [awkE, List.mem_cons, List.not_mem_nil, or_false] at he
    rcases he with rfl | rfl | rfl <;> simp
theorem neB {a b : ByteArray} (h : decide (a = b) = false) : a ≠ b := by simpa using h
theorem awk_reachR : reachOf awkE bR = [] := by
  refine (reachOf_eq List.Pairwise.nil (by simp) ?_).symm
  intro e he h
  have hPR : bP ≠ bR := neB (by kernel_rfl)
  have hQR : bQ ≠ bR := neB (by kernel_rfl)
  simp only [awkE, List.mem_cons, List.not_mem_nil, or_false] at he h
  rcases he with rfl | rfl | rfl
  · exact absurd h hPR
  · exact absurd h hPR
  · exact absurd h hQR
theorem awk_groups : groupsOf awkE [bP, bQ, bR] = [[bR], [bP, bQ]] := by
  have h1 : insAll [bP, bQ, bR] = [bP, bQ, bR] := by kernel_rfl
  have h2 : insOf awkE [bP, bQ, bR] = awkE := by kernel_rfl
  unfold groupsOf
  rw [h1, h2]
  have p0 : readyB awkE ([] : List (List ByteArray)).flatten bP = false := by simp only [readyB, rb, awk_reachP, awk_reachQ, awk_reachR, List.all_cons, List.all_nil, List.flatten_nil]; kernel_rfl
  have q0 : readyB awkE ([] : List (List ByteArray)).flatten bQ = false := by simp only [readyB, rb, awk_reachP, awk_reachQ, awk_reachR, List.all_cons, List.all_nil, List.flatten_nil]; kernel_rfl
  have r0 : readyB awkE ([] : List (List ByteArray)).flatten bR = true := by simp only [readyB, rb, awk_reachR, List.all_nil, List.flatten_nil]; kernel_rfl
  have g0 : grpOf awkE [bP, bQ, bR] bR = [bR] := by simp only [grpOf, inG, rb, awk_reachP, awk_reachQ, awk_reachR, List.filter_cons]; kernel_rfl
  have p1 : readyB awkE [[bR]].flatten bP = true := by simp only [readyB, rb, awk_reachP, awk_reachQ, awk_reachR, List.all_cons, List.all_nil]; kernel_rfl
  have g1 : grpOf awkE [bP, bQ, bR] bP = [bP, bQ] := by simp only [grpOf, inG, rb, awk_reachP, awk_reachQ, awk_reachR, List.filter_cons]; kernel_rfl
  have p2 : readyB awkE [[bR], [bP, bQ]].flatten bP = false := by simp only [readyB, rb, awk_reachP, awk_reachQ, awk_reachR, List.all_cons, List.all_nil]; kernel_rfl
  have q2 : readyB awkE [[bR], [bP, bQ]].flatten bQ = false := by simp only [readyB, rb, awk_reachP, awk_reachQ, awk_reachR, List.all_cons, List.all_nil]; kernel_rfl
  have r2 : readyB awkE [[bR], [bP, bQ]].flatten bR = false := by simp only [readyB, rb, awk_reachR, List.all_nil]; kernel_rfl
  have f0 : [bP, bQ, bR].find? (readyB awkE ([] : List (List ByteArray)).flatten) = some bR := by simp only [List.find?, p0, q0, r0]
  have f1 : [bP, bQ, bR].find? (readyB awkE [[bR]].flatten) = some bP := by simp only [List.find?, p1]
  have f2 : [bP, bQ, bR].find? (readyB awkE [[bR], [bP, bQ]].flatten) = none := by simp only [List.find?, p2, q2, r2]
  show stepGo awkE [bP, bQ, bR] 3 [] = _
  rw [stepGo_at f0, g0]
  show stepGo awkE [bP, bQ, bR] 2 [[bR]] = _
  rw [stepGo_at f1, g1]
  show stepGo awkE [bP, bQ, bR] 1 [[bR], [bP, bQ]] = _
  unfold stepGo
  rw [f2]
end Go.Proofs.YtgljjapglgcpdaaGreatDoor
