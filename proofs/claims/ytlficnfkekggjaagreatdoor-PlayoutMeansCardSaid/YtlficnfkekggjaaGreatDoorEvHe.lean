
/-
  The evaluator over this program: its hooks, the heap that holds the package's variable check.keywords; what a run to true says.
  Functions of a string alone, answered from a table: each row by one run over an empty heap.
-/
import Derived.Test.YtlficnfkekggjaaGreatDoorEvHc
import Derived.Test.YtlficnfkekggjaaGreatDoorEvHd
namespace Go.Proofs.YtlficnfkekggjaaGreatDoor
open Go.RowKit Go.Ev Go.Shelf
noncomputable def hkA {R : Type} (g : Nat) : Option (HK R) := match g with
  | 208 => some (hkSort 261 (some 210) ltE okE false 3 228)
  | 263 => some (hkSort 296 none ltS okS true 1 9)
  | 279 => some hkCmp
  | 242 => some (hkCheck 274)
  | 216 => some (hkIns 2 84)
  | 162 => some (hkIns 3 242)
  | _ => none
set_option maxRecDepth 100000 in
theorem hkA_sd {R : Type} : HkSd Tryz.prog (hkA : Nat → Option (HK R)) := by
  intro g h hg
  unfold hkA at hg
  split at hg <;> first | (injection hg with hg; subst hg) | (cases hg; done)
  · exact hkSortedFunc_sd
  · exact hkSorted_sd
  · exact hkCmp_sd
  · exact hkCheck_sd
  · exact hkIns_sd insC_T (enters_of Tryz.func216 (by kernel_rfl) rfl) (by kernel_rfl) (by omega)
  · exact hkIns_sd insC_G (enters_of Tryz.func162 (by kernel_rfl) rfl) (by kernel_rfl) (by omega)
theorem noNG : NoNG Tryz.prog := by
  have h : (Tryz.prog.funcs.all fun F => !(F.name == "runtime.NumGoroutine")) = true := by kernel_rfl
  intro g F hF
  have := Array.all_eq_true_iff_forall_mem.1 h F (Array.mem_of_getElem? hF)
  simpa using this
theorem mixed_ : Tryz.prog.follows .mixedOrders = true := by kernel_rfl
noncomputable def callA {R : Type} (g : Nat) (args : List V) (s : S) (k : V → S → Option R) : Option R := callG Tryz.prog (drawn Tryz.prog) hkA 10000000 g args s k
/-- the cells of check.keywords -/
def kwsV : List V := [.vs 4 [114, 111, 108, 101], .vi 3 1, .vb true, .vb true, .vs 4 [105, 110, 105, 116], .vi 3 1, .vb true, .vb false, .vs 4 [116, 114, 117, 101], .vi 3 1, .vb false, .vb true,
 .vs 4 [100, 111, 101, 115], .vi 3 2, .vb false, .vb true, .vs 5 [108, 101, 103, 97, 108], .vi 3 2, .vb true, .vb false, .vs 4 [110, 101, 120, 116], .vi 3 1, .vb true, .vb false,
 .vs 8 [116, 101, 114, 109, 105, 110, 97, 108], .vi 3 0, .vb true, .vb false, .vs 4 [103, 111, 97, 108], .vi 3 2, .vb true, .vb false, .vs 4 [115, 101, 101, 115], .vi 3 2, .vb true, .vb false,
 .vs 8 [100, 105, 115, 116, 105, 110, 99, 116], .vi 3 2, .vb false, .vb true]
/-- a block that holds them, of whatever type -/
noncomputable def withK {R : Type} (ty : Nat) (k : S → Option R) : Option R := mkP kwsV fun pg => setH h0 0 (.cel ty 40 0 pg) fun h => k ⟨h, 20, [], 20⟩
/-- block 0 holds them -/
def KwBlk (w : World) : Prop := ∃ (c : Array Value) (t : TypeId), w.heap[0]? = some (.cells c t (0, 0)) ∧ ∀ i, i < 40 → ∃ u, c[i]? = some u ∧ VR (fun _ => none) ((kwsV[i]?).getD .unk) u ∧ u.oneCell' = true
theorem KwBlk.ch {w w' : World} (h : KwBlk w) (hc : Ch [] w w') : KwBlk w' := by
  obtain ⟨c, t, h1, h2⟩ := h
  exact ⟨c, t, by rw [hc.block 0 (lt_of_heap h1) (by simp)]; exact h1, h2⟩
set_option maxRecDepth 100000 in
/-- A CALL THAT THE EVALUATOR RAN TO A BOOL, from nothing but check.keywords -/
theorem call_of_run {hk : Nat → Option (HK Bool)} (hH : HkSd Tryz.prog hk) {g : Nat} {b : Bool} (eg : ∀ args w, (callFunc g args).run Tryz.prog w = .ok (.enter g args) w) (h : ∀ ty, (withK ty fun s => callG Tryz.prog (drawn Tryz.prog) hk 10000000 g [] s fun v s' => iff (isNil s'.w) (onB v fun b => some b) none) = some b) (w : World) (hK : KwBlk w) :
    Calls Tryz.prog g #[] w fun e w' => e = .returned (.bool b) ∧ Ch [] w w' := by
  obtain ⟨c, t, hc, hcs⟩ := hK
  have h := h t
  unfold withK at h
  obtain ⟨pg, h, hp⟩ := mkP_some h
  obtain ⟨_, h⟩ := setH_some h
  obtain ⟨v, s', hsd, ha, h⟩ := callG_some noNG hH (drawn_spec mixed_) (Nat.le_refl _) h
  obtain ⟨hw, h⟩ := iff_some h
  have hw := isNil_eq.1 hw
  obtain ⟨b', rfl, h⟩ := onB_some h
  injection h with h
  subst h
  have hc40 : 40 ≤ c.size := by
    obtain ⟨u, hu, _⟩ := hcs 39 (by omega)
    have := (Array.getElem?_eq_some_iff.1 hu).1
    omega
  let φ : Phi := fun b => if b = 0 then some (0, Tryz.prog.cellsOf t, c.size) else none
  have hφ : ∀ b x, φ b = some x → b = 0 ∧ x = (0, Tryz.prog.cellsOf t, c.size) := fun b x e => by
    have e : (if b = 0 then some (0, Tryz.prog.cellsOf t, c.size) else none) = some x := e
    split at e
    · rename_i h0; injection e with e; exact ⟨h0, e.symm⟩
    · cases e
  have hk := hsd φ [] w (fun u w' => u = .bool b' ∧ Ch [] w w') (fun b hb => by show (if b = 0 then _ else none) = none; rw [if_neg (by have : (20 : Nat) ≤ b := hb; omega)]) ⟨_, if_pos rfl, rfl⟩ rfl ⟨fun b x e => ?_, fun b x e => ?_, fun b d x y e1 e2 _ _ _ => (hφ b x e1).1.trans (hφ d y e2).1.symm⟩ fun φ' u w' hs hv => ?_
  · unfold CallW at hk
    rw [eg] at hk
    refine hk.mono fun e w' he => ?_
    cases e with
    | returned v => exact ⟨by rw [he.1], he.2⟩
    | panicked _ => exact he.elim
    | outgrown => exact he.elim
  · obtain ⟨rfl, rfl⟩ := hφ b x e
    exact ⟨by omega, lt_of_heap hc⟩
  · obtain ⟨rfl, rfl⟩ := hφ b x e
    show BR _ _ _ _ (Go.Ev.look (updH h0 0 (.cel t 40 0 pg)) 0) w.heap[0]?
    rw [look_upd _ _ (by omega) (by omega), if_pos rfl, hc]
    refine ⟨c, 0, 0, rfl, rfl, rfl, hc40, .inl ⟨rfl, rfl⟩, fun i hi => ?_⟩
    obtain ⟨u, h1, h2, h3⟩ := hcs i hi
    have hi' : i < kwsV.length := hi
    rw [hp i hi', Option.getD_some] at h2
    exact ⟨u, h1, h2.mono (fun b x e => by cases e) _ _, h3⟩
  · refine ⟨hv, hs.os, hs.tape, hs.output, hs.size, fun k hk' _ => hs.frame k hk' fun b x e hx => ?_⟩
    obtain ⟨rfl, rfl⟩ := hφ b x e
    exact ⟨by show 0 < 20; omega, by rw [hw]; simp⟩
end Go.Proofs.YtlficnfkekggjaaGreatDoor
namespace Go.Proofs.YtlficnfkekggjaaGreatDoor
open Go.RowKit Go.Ev Go.Shelf
section
variable {R : Type}
noncomputable def lookT (l : List Nat) (t : List (List Nat × V)) (k : V → Option R) : Option R := @List.rec _ (fun _ => Option R) none (fun e _ ih => iff (leqL l e.1) (k e.2) ih) t
noncomputable def hkMemo (t : List (List Nat × V)) : HK R := ⟨fun args s k => onS (hd args 0) fun _ l => iff (Nat.beq (lenN args) 1) (lookT l t fun v => k v s) none⟩
def veqL : List V → List V → Bool
  | [], [] => true
  | a :: x, b :: y => veq 0 a b && veqL x y
  | _, _ => false
def veqT : V → V → Bool
  | .vt a, .vt b => veqL a b
  | a, b => veq 0 a b
theorem veqL_some : ∀ {a b : List V}, veqL a b = true → b = a ∧ ∀ φ us, VRs φ a us → VRs (fun _ => none) a us
  | [], [], _ => ⟨rfl, fun _ _ h => h⟩
  | a :: x, b :: y, h => by
    unfold veqL at h
    rw [Bool.and_eq_true] at h
    obtain ⟨h1, h2⟩ := veq_some h.1
    obtain ⟨h3, h4⟩ := veqL_some h.2
    refine ⟨by rw [h1, h3], fun φ us ⟨u, t, e, hu, ht⟩ => ⟨u, t, e, ?_, h4 φ t ht⟩⟩
    exact (h2 φ u hu).mono (fun b x e => by have := (Phi.cut_some.1 e).1; omega) _ _
  | [], _ :: _, h => by simp [veqL] at h
  | _ :: _, [], h => by simp [veqL] at h
theorem veqT_some {a b : V} (h : veqT a b = true) : b = a ∧ ∀ φ u, VR φ a u → VR (fun _ => none) a u := by
  unfold veqT at h
  split at h
  · rename_i x y
    obtain ⟨h1, h2⟩ := veqL_some h
    exact ⟨by rw [h1], fun φ u ⟨us, e, hu⟩ => ⟨us, e, h2 φ us hu⟩⟩
  · obtain ⟨h1, h2⟩ := veq_some h
    exact ⟨h1, fun φ u hu => (h2 φ u hu).mono (fun b x e => by have := (Phi.cut_some.1 e).1; omega) _ _⟩
/-- all rows of a table, run -/
noncomputable def memoRun (g : Nat) (t : List (List Nat × V)) : Option Bool :=
  @List.rec _ (fun _ => Option Bool) (some true) (fun e _ ih => callA g [.vs (lenN e.1) e.1] ⟨h0, 1, [], 1⟩ fun v s' => iff (isNil s'.w) (iff (veqT e.2 v) ih none) none) t
def MemoOk (g : Nat) (l : List Nat) (v : V) : Prop := ∀ s, CallSd Tryz.prog g [.vs l.length l] s v s
set_option maxRecDepth 100000 in
theorem memo_row {g : Nat} {l : List Nat} {v : V} {r : Option Bool} (h : (callA g [.vs (lenN l) l] ⟨h0, 1, [], 1⟩ fun v' s' => iff (isNil s'.w) (iff (veqT v v') r none) none) = some true) : MemoOk g l v ∧ r = some true := by
  obtain ⟨v', s', hsd, ha, h⟩ := callG_some noNG hkA_sd (drawn_spec mixed_) (Nat.le_refl _) h
  obtain ⟨hw, h⟩ := iff_some h
  obtain ⟨hv, hr⟩ := iff_some h
  have hw := isNil_eq.1 hw
  obtain ⟨rfl, hv⟩ := veqT_some hv
  refine ⟨fun s φ us w K hf hg hvs HH hK => ?_, hr⟩
  rw [lenN_eq] at hsd
  obtain ⟨us1, rfl, hus⟩ : ∃ x, us = [x] ∧ VR φ (.vs l.length l) x := by
    obtain ⟨u, t, rfl, hu, ht⟩ := hvs
    exact ⟨u, by rw [show t = [] from ht], hu⟩
  refine hsd (φ.cut 1) _ w K (fun b hb => by unfold Phi.cut; rw [if_neg (by have : 1 ≤ b := hb; omega)]) ?_ ⟨us1, [], rfl, hus, rfl⟩ ⟨fun b x e => HH.lt b x (Phi.cut_some.1 e).2, fun b x e => ?_, fun b c x y e1 e2 _ _ _ => ?_⟩ fun φ' u w' hs hu => ?_
  · obtain ⟨x, hx, hx1⟩ := hg
    exact ⟨x, Phi.cut_some.2 ⟨by omega, hx⟩, hx1⟩
  · show BR _ _ _ _ (Go.Ev.look h0 b) _
    rw [look_h0]
    exact trivial
  · have h1 := (Phi.cut_some.1 e1).1
    have h2 := (Phi.cut_some.1 e2).1
    omega
  · refine hK φ u w' (Step.keep HH hs.size hs.os hs.tape hs.output fun β hβ => hs.frame β hβ fun b x e hx => ?_) ((hv φ' u hu).mono (fun b x e => by cases e) _ _)
    exact ⟨(Phi.cut_some.1 e).1, by rw [hw]; simp⟩
set_option maxRecDepth 100000 in
theorem memoRun_some {g : Nat} : ∀ {t : List (List Nat × V)}, memoRun g t = some true → ∀ e ∈ t, MemoOk g e.1 e.2
  | e :: t, h, x, hx => by
    obtain ⟨h1, h2⟩ := memo_row (r := memoRun g t) h
    rcases List.mem_cons.1 hx with rfl | hx
    · exact h1
    · exact memoRun_some h2 x hx
theorem leqL_eq : ∀ {a b : List Nat}, leqL a b = true → a = b := by
  intro a
  induction a with
  | nil => intro b h; cases b with | nil => rfl | cons _ _ => cases h
  | cons x a ih =>
    intro b h
    cases b with
    | nil => cases h
    | cons y b =>
      have h : @Bool.rec (fun _ => Bool) false (leqL a b) (Nat.beq x y) = true := h
      cases hxy : Nat.beq x y with
      | false => rw [hxy] at h; cases h
      | true => rw [hxy] at h; rw [beq_of hxy, ih h]
theorem lookT_some {l : List Nat} {k : V → Option R} {r : R} : ∀ {t : List (List Nat × V)}, lookT l t k = some r → ∃ e ∈ t, e.1 = l ∧ k e.2 = some r
  | e :: t, h => by
    have h : iff (leqL l e.1) (k e.2) (lookT l t k) = some r := h
    rcases iff2 h with ⟨h1, h⟩ | ⟨_, h⟩
    · exact ⟨e, List.mem_cons_self, (leqL_eq h1).symm, h⟩
    · obtain ⟨x, h1, h2⟩ := lookT_some h
      exact ⟨x, List.mem_cons_of_mem _ h1, h2⟩
set_option maxRecDepth 100000 in
theorem hkMemo_sd {g : Nat} {t : List (List Nat × V)} (ht : ∀ e ∈ t, MemoOk g e.1 e.2) : ∀ args s k r, s.base ≤ s.n → (hkMemo t : HK R).run args s k = some r → ∃ v s', CallSd Tryz.prog g args s v s' ∧ Abs s s' ∧ k v s' = some r := by
  intro args s k r hb h
  unfold hkMemo at h
  simp only [] at h
  obtain ⟨n, l, hx, h⟩ := onS_some h
  obtain ⟨hl, h⟩ := iff_some h
  obtain ⟨e, he, rfl, hr⟩ := lookT_some h
  have hl := beq_of hl
  rw [lenN_eq] at hl
  refine ⟨e.2, s, fun φ us w K hf hg hvs HH hK => ?_, Abs.refl s, hr⟩
  refine ht e he s φ us w K hf hg ?_ HH hK
  match args, hl with
  | [p], _ =>
    obtain ⟨u, t', rfl, hu, ht'⟩ := hvs
    have hx : p = .vs n e.1 := hx
    rw [hx] at hu
    obtain ⟨bs, rfl, h1, h2⟩ := hu
    exact ⟨_, [], by rw [show t' = [] from ht'], ⟨bs, rfl, h1, rfl⟩, rfl⟩
end
def tab1 : List (List Nat × V) := [([48], .vb false), ([50], .vb false), ([49], .vb false), ([51], .vb false), ([81], .vb false), ([80], .vb false), ([75], .vb false), ([78], .vb false), ([72], .vb false), ([120], .vb true), ([121], .vb true), ([111, 110], .vb true), ([49, 48, 48], .vb false), ([111, 102, 102], .vb true), ([115, 116, 97, 121], .vb true), ([103, 111, 97, 108], .vb true), ([116, 97, 107, 101], .vb true), ([119, 97, 105, 116], .vb true), ([104, 101, 97, 112], .vb true), ([100, 111, 101, 115], .vb true), ([116, 114, 117, 101], .vb true), ([114, 111, 108, 101], .vb true), ([110, 101, 120, 116], .vb true), ([105, 110, 105, 116], .vb true), ([116, 117, 114, 110], .vb true), ([108, 101, 97, 118, 101], .vb true), ([108, 101, 103, 97, 108], .vb true), ([109, 105, 110, 117, 115], .vb true), ([111, 116, 104, 101, 114], .vb true), ([116, 101, 114, 109, 105, 110, 97, 108], .vb true)]
def tab2 : List (List Nat × V) := [([48], .vt [.vi 3 0, .vb true]), ([50], .vt [.vi 3 2, .vb true]), ([49], .vt [.vi 3 1, .vb true]), ([51], .vt [.vi 3 3, .vb true]), ([81], .vt [.vi 3 0, .vb false]), ([80], .vt [.vi 3 0, .vb false]), ([75], .vt [.vi 3 0, .vb false]), ([78], .vt [.vi 3 0, .vb false]), ([72], .vt [.vi 3 0, .vb false]), ([120], .vt [.vi 3 0, .vb false]), ([121], .vt [.vi 3 0, .vb false]), ([111, 110], .vt [.vi 3 0, .vb false]), ([49, 48, 48], .vt [.vi 3 100, .vb true]), ([111, 102, 102], .vt [.vi 3 0, .vb false]), ([115, 116, 97, 121], .vt [.vi 3 0, .vb false]), ([119, 97, 105, 116], .vt [.vi 3 0, .vb false]), ([108, 101, 97, 118, 101], .vt [.vi 3 0, .vb false]), ([116, 101, 114, 109, 105, 110, 97, 108], .vt [.vi 3 0, .vb false])]
def tab3 : List (List Nat × V) := [([48], .vb false), ([81], .vb true), ([80], .vb true), ([75], .vb true), ([78], .vb true), ([72], .vb true), ([49], .vb false), ([50], .vb false), ([51], .vb false), ([120], .vb false), ([121], .vb false), ([111, 110], .vb false), ([49, 48, 48], .vb false), ([111, 102, 102], .vb false), ([115, 116, 97, 121], .vb false), ([119, 97, 105, 116], .vb false), ([108, 101, 97, 118, 101], .vb false), ([116, 101, 114, 109, 105, 110, 97, 108], .vb false)]
set_option maxRecDepth 1000000 in
theorem tab1_ok : ∀ e ∈ tab1, MemoOk 142 e.1 e.2 := memoRun_some (by kernel_rfl)
set_option maxRecDepth 1000000 in
theorem tab2_ok : ∀ e ∈ tab2, MemoOk 173 e.1 e.2 := memoRun_some (by kernel_rfl)
set_option maxRecDepth 1000000 in
theorem tab3_ok : ∀ e ∈ tab3, MemoOk 206 e.1 e.2 := memoRun_some (by kernel_rfl)
noncomputable def hkB {R : Type} (g : Nat) : Option (HK R) := match g with
  | 142 => some (hkMemo tab1)
  | 173 => some (hkMemo tab2)
  | 206 => some (hkMemo tab3)
  | g => hkA g
set_option maxRecDepth 100000 in
theorem hkB_sd {R : Type} : HkSd Tryz.prog (hkB : Nat → Option (HK R)) := by
  intro g h hg
  unfold hkB at hg
  split at hg
  · injection hg with hg; subst hg; exact hkMemo_sd tab1_ok
  · injection hg with hg; subst hg; exact hkMemo_sd tab2_ok
  · injection hg with hg; subst hg; exact hkMemo_sd tab3_ok
  · exact hkA_sd g h hg
noncomputable def callB {R : Type} (g : Nat) (args : List V) (s : S) (k : V → S → Option R) : Option R := callG Tryz.prog (drawn Tryz.prog) hkB 10000000 g args s k
end Go.Proofs.YtlficnfkekggjaaGreatDoor
