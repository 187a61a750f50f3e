
/-
  The contracts of model.relation and of the closure in model.strataOf that adds an edge.
  Rows of numbers and of truth values that a call makes and writes.
  The contract of model.strataOf.
-/
import Derived.Test.YtojokdicbopknaaGreatGdRefV
import Derived.Test.YtojokdicbopknaaGreatEdSort
import Derived.Test.YtojokdicbopknaaGreatRead
import Derived.Test.YtojokdicbopknaaGreatStep
import Derived.Laws.OwnMore
import Derived.Maps.OwnSet
import Derived.Test.YtojokdicbopknaaGreatStrLev
import Derived.Test.YtojokdicbopknaaGreatStrOf
namespace Go.Proofs.YtojokdicbopknaaGreat

section
open Go.RowKit

theorem SlT.nameAt {p : Nat → Prop} {w : World} {a : Option Addr} {n c : Nat} {A : List Tm} (h : SlT p w (.slice a n c) A) {k : Nat} (hk : k < A.length) : ∃ b o, a = some ⟨b, o, none⟩ ∧ w.cell? ⟨b, o + k * 2, none⟩ = some (.string (nmA A (k : Int))) := by
  obtain ⟨b, o, a', c', rfl, _, h1, _, _⟩ := h.at_ hk
  exact ⟨b, o, rfl, by rw [nmA_at hk]; exact h1⟩

theorem rel_fin {w wz : World} {B1 : Nat} {nm : ByteArray} {z0 z1 : Value} (hr : Blk wz B1 59 #[z0, z1]) (hB : Ch [] w wz) (hl : w.heap.size ≤ B1)
    (a : Act) (h4 : a.tmps.getD 4 undef = .pointer (some ⟨B1, 0, none⟩)) (h5 : a.defers = []) :
    bodyPost Tryz.prog Tryz.f51 (fun e w' => e = .returned (.agg #[.string nm, .slice none 0 0]) ∧ Ch [] w w') .ret a
      ((wz.setCell ⟨B1, 0, none⟩ (.string nm)).setCell ⟨B1, 1, none⟩ (.slice none 0 0)) := by
  have hbF : Blk ((wz.setCell ⟨B1, 0, none⟩ (.string nm)).setCell ⟨B1, 1, none⟩ (.slice none 0 0)) B1 59 #[.string nm, .slice none 0 0] := (hr.set_ 0 _).set_ 1 _
  have hcF : Ch [B1] wz ((wz.setCell ⟨B1, 0, none⟩ (.string nm)).setCell ⟨B1, 1, none⟩ (.slice none 0 0)) := ((Ch.refl _ _).set (by simp) _).set (by simp) _
  exact bodyPost_ret (results_cell_row (p := 4) (ty := 59) (by kernel_rfl) _ _ B1 59 _ _ _ h4 hbF Tryz.underlying59 rfl (by kernel_rfl)) h5 ⟨rfl, hB.step hcF (by simp; omega)⟩

set_option maxRecDepth 100000 in
theorem relation_ (A : List Tm) (k : Nat) (hk : k < A.length) (p : Nat → Prop) (a : Option Addr) (n c : Nat) (v2 : Value) (w : World) (h : SlT p w (.slice a n c) A) (_h2 : v2.oneCell' = true) (_hn : A.length ≤ 1000000) :
    Calls Tryz.prog 51 #[.agg #[.slice a n c, v2], .int .i64 (k : Int)] w fun e w' => e = .returned (.agg #[.string (nmA A (k : Int)), .slice none 0 0]) ∧ Ch [] w w' := by
  obtain ⟨a0, c0, e, hlc, hm⟩ := h.form
  injection e with e1 e2 e3
  subst e1 e2 e3
  obtain ⟨b, o, rfl, hc⟩ := h.nameAt hk
  generalize nmA A (k : Int) = nm at *
  unfold maxLen at hm
  have hbx := (Blk.new w 25 #[.slice (some ⟨b, o, none⟩) A.length c, v2]).alloc (.cells #[.string ⟨#[]⟩, .slice none 0 0] 59)
  have hby : Blk ((w.alloc (.cells #[.slice (some ⟨b, o, none⟩) A.length c, v2] 25)).alloc (.cells #[.string ⟨#[]⟩, .slice none 0 0] 59)) (w.heap.size + 1) 59 #[.string ⟨#[]⟩, .slice none 0 0] := Blk.new' _ _ _ _ (by simp)
  have hcA : Ch [] w ((w.alloc (.cells #[.slice (some ⟨b, o, none⟩) A.length c, v2] 25)).alloc (.cells #[.string ⟨#[]⟩, .slice none 0 0] 59)) := ((Ch.refl _ _).alloc _).alloc _
  generalize hwA : (w.alloc (.cells #[.slice (some ⟨b, o, none⟩) A.length c, v2] 25)).alloc (.cells #[.string ⟨#[]⟩, .slice none 0 0] 59) = wA at *
  have b0 := hbx.cell 0
  have y0 := hby.cell 0
  have y1 := hby.cell 1
  have f0 := hby.frozen 0
  have f1 := hby.frozen 1
  have d0 := cell_ch (S := []) hc hcA (by simp)
  have i1 : (k : Int) < (A.length : Int) := by omega
  have i0 : (0 : Int) ≤ (k : Int) := by omega
  go_enter Tryz.func51, Tryz.ntmps51
  go_wp2
  exact rel_fin hby hcA (by omega) _ (by rfl) (by rfl)

theorem own_not {w : World} {base : Nat} {e : TypeId} {k : Nat} {v : Value} {css : List (List Value)} (h : Own w base e k v css) {b : Nat} (hb : b < base) : b ∉ v.ownBlock.toList := by
  intro hm
  cases hv : v.ownBlock with
  | none => rw [hv] at hm; cases hm
  | some g => rw [hv] at hm; simp at hm; subst hm; have := (h.lt hv).1; omega
theorem one_up (w : World) (o : Obj) (cs : List Value) (hk : cs.length = 3) (h1 : ∀ u ∈ cs, u.oneCell' = true) :
    Sl (fun b => w.heap.size ≤ b) ((w.alloc o).alloc (.cells cs.toArray 87)) 3 (.slice (some ⟨w.heap.size + 1, 0, none⟩) 1 1) [cs] := by
  have h9 := (Sl.one (w.alloc o) 3 87 cs hk h1).weak (q := fun b => w.heap.size ≤ b) (fun b _ hb => by simp at hb; omega)
  rwa [show (w.alloc o).heap.size = w.heap.size + 1 by simp] at h9
/-- what the closure keeps: the description, the map of met edges, the rules that stand for them -/
structure AddS (w : World) (base Bg Bc Bm Bl : Nat) (va vr : Value) (kv : List (Ed × Value)) (v : Value) (es : List Ed) : Prop where
  g : Blk w Bg 25 #[va, vr]
  c : Blk w Bc 78 #[.map (some Bm)]
  m : MapAt w encE Bm kv
  l : Blk w Bl 79 #[v]
  t : ∀ x ∈ kv, x.2 = .bool true
  ks : kv.map (·.1) = es
  o : OwnG RuR 87 3 w base v (es.map ruE)
structure AddB (base Bg Bc Bm Bl : Nat) : Prop where
  g : Bg < base
  c : Bc < base
  m : Bm < base
  l : Bl < base
  gm : Bg ≠ Bm
  gl : Bg ≠ Bl
  cm : Bc ≠ Bm
  cl : Bc ≠ Bl
  ml : Bm ≠ Bl
theorem AddS.ch {w w' : World} {base Bg Bc Bm Bl : Nat} {va vr v : Value} {kv : List (Ed × Value)} {es : List Ed} (h : AddS w base Bg Bc Bm Bl va vr kv v es) (hc : Ch [] w w') : AddS w' base Bg Bc Bm Bl va vr kv v es :=
  ⟨h.g.ch hc (by simp), h.c.ch hc (by simp), h.m.ch hc (by simp), h.l.ch hc (by simp), h.t, h.ks, h.o.ch imp_ru hc (by simp)⟩
theorem metE {kv : List (Ed × Value)} {es : List Ed} (ht : ∀ x ∈ kv, x.2 = .bool true) (hk : kv.map (·.1) = es) (e : Ed) : (aget kv e).getD (.bool false) = .bool (decide (e ∈ es)) := by
  cases hg : aget kv e with
  | none =>
    rw [aget_none, hk] at hg
    rw [decide_eq_false hg]; rfl
  | some v =>
    obtain ⟨j, hj⟩ := aget_idx hg
    have hm := List.mem_of_getElem? hj
    have h1 := ht _ hm
    simp only at h1
    subst h1
    have : e ∈ es := by rw [← hk]; exact List.mem_map.2 ⟨_, hm, rfl⟩
    rw [decide_eq_true this]; rfl
/-- the post of the closure -/
def AddPost (base Bg Bc Bm Bl : Nat) (va vr v : Value) (es : List Ed) (w : World) (e : Ending) (w' : World) : Prop :=
  e = .returned (.tuple #[]) ∧ ∃ kv' v', AddS w' base Bg Bc Bm Bl va vr kv' v' es ∧ Ch (Bm :: Bl :: v.ownBlock.toList) w w' ∧ (v'.ownBlock = v.ownBlock ∨ ∃ g, v'.ownBlock = some g ∧ w.heap.size ≤ g)

theorem SlT.nilZ (p : Nat → Prop) (w : World) : SlT p w (.slice none 0 0) [] := ⟨[], Sl.nil _ _ _, by simp [TmsR]⟩
theorem asetE_bool {kv : List (Ed × Value)} (h : ∀ x ∈ kv, x.2 = .bool true) (s : Ed) : ∀ x ∈ aset kv s (.bool true), x.2 = .bool true := by
  induction kv with
  | nil => intro x hx; simp [aset] at hx; subst hx; rfl
  | cons y r ih =>
    intro x hx
    simp only [aset] at hx
    split at hx
    · rcases List.mem_cons.1 hx with rfl | hx
      · rfl
      · exact h x (by simp [hx])
    · rcases List.mem_cons.1 hx with rfl | hx
      · exact h _ (by simp)
      · exact ih (fun z hz => h z (by simp [hz])) x hx
theorem addS_fin {base Bg Bc Bm Bl : Nat} {va vr v v7 : Value} {kv : List (Ed × Value)} {es : List Ed} {e : Ed} {w wE w3 w4 w5 w6 : World} {css : List (List Value)} (hB : AddB base Bg Bc Bm Bl) (hS : AddS wE base Bg Bc Bm Bl va vr kv v es)
    (hc0 : Ch [] w wE) (hc3 : Ch [Bm] wE w3) (hm3 : MapAt w3 encE Bm (aset kv e (.bool true))) (hc4 : Ch [] w3.drew w4) (hc5 : Ch [] w4 w5) (hne : e ∉ es)
    (hcl : css.length = (es.map ruE).length) (hli : ∀ (i : Nat) (cs : List Value) (x : Ru), css[i]? = some cs → (es.map ruE)[i]? = some x → RuR (fun b => base ≤ b ∧ v.ownBlock ≠ some b) wE x cs) (hown : Own wE base 87 3 v css) (hbs : base ≤ w3.heap.size)
    (ho6 : Own w6 base 87 3 v7 (css ++ [[.string e.f, .slice none 0 0, .slice (some ⟨w5.heap.size, 0, none⟩) 1 1]]))
    (hc6 : Ch v.ownBlock.toList ((w5.alloc (.cells #[.bool e.n, .string e.t, .slice none 0 0] 84)).alloc (.cells #[.string e.f, .slice none 0 0, .slice (some ⟨w5.heap.size, 0, none⟩) 1 1] 87)) w6)
    (hat6 : v7.ownBlock = v.ownBlock ∨ v7.ownBlock = some ((w5.alloc (.cells #[.bool e.n, .string e.t, .slice none 0 0] 84)).alloc (.cells #[.string e.f, .slice none 0 0, .slice (some ⟨w5.heap.size, 0, none⟩) 1 1] 87)).heap.size) :
    ∃ kv' v', AddS (w6.setCell ⟨Bl, 0, none⟩ v7) base Bg Bc Bm Bl va vr kv' v' (es ++ [e]) ∧ Ch (Bm :: Bl :: v.ownBlock.toList) w (w6.setCell ⟨Bl, 0, none⟩ v7) ∧ (v'.ownBlock = v.ownBlock ∨ ∃ g, v'.ownBlock = some g ∧ w.heap.size ≤ g) := by
  have h05 : Ch [] w3 w5 := (((Ch.refl [] w3).drew).trans hc4).trans hc5
  have hs0 := hc0.size
  have hs3 := hc3.size
  have hs5 := h05.size
  have hlv : ∀ b, v.ownBlock = some b → base ≤ b ∧ b < wE.heap.size := fun b hb => hown.lt hb
  have hsub : Sl (fun b => b = w5.heap.size) (w5.alloc (.cells #[.bool e.n, .string e.t, .slice none 0 0] 84)) 3 (.slice (some ⟨w5.heap.size, 0, none⟩) 1 1) [[.bool e.n, .string e.t, .slice none 0 0]] :=
    Sl.one w5 3 84 [.bool e.n, .string e.t, .slice none 0 0] rfl (by simp [Value.oneCell'])
  have hcZ : Ch [] w5 ((w5.alloc (.cells #[.bool e.n, .string e.t, .slice none 0 0] 84)).alloc (.cells #[.string e.f, .slice none 0 0, .slice (some ⟨w5.heap.size, 0, none⟩) 1 1] 87)) := ((Ch.refl _ _).alloc _).alloc _
  have hsubZ := hsub.ch0 ((Ch.refl [] _).alloc (.cells #[.string e.f, .slice none 0 0, .slice (some ⟨w5.heap.size, 0, none⟩) 1 1] 87))
  generalize ((w5.alloc (.cells #[.bool e.n, .string e.t, .slice none 0 0] 84)).alloc (.cells #[.string e.f, .slice none 0 0, .slice (some ⟨w5.heap.size, 0, none⟩) 1 1] 87)) = wZ at *
  have h3Z : Ch [] w3 wZ := h05.trans hcZ
  have hsZ := h3Z.size
  have hno : ∀ b, b < base → b ∉ v.ownBlock.toList := fun b hb => own_not hown hb
  have hcS : Ch [Bl] w6 (w6.setCell ⟨Bl, 0, none⟩ v7) := (Ch.refl _ _).set (by simp) _
  have hliZ : ∀ (i : Nat) (cs : List Value) (x : Ru), css[i]? = some cs → (es.map ruE)[i]? = some x → RuR (fun b => base ≤ b ∧ v.ownBlock ≠ some b) wZ x cs := fun i cs x h1 h2 =>
    imp_ru _ _ _ _ _ _ (by omega) (fun b hb hp => ⟨hp, (h3Z.block b (by omega) (by simp)).trans (hc3.block b hb (by have := hB.m; simp; omega))⟩) (hli i cs x h1 h2)
  have hnew : RuR (fun b => base ≤ b ∧ v.ownBlock ≠ some b) wZ (ruE e) [.string e.f, .slice none 0 0, .slice (some ⟨w5.heap.size, 0, none⟩) 1 1] := by
    refine ⟨_, _, rfl, SlT.nilZ _ _, ⟨[[.bool e.n, .string e.t, .slice none 0 0]], hsubZ.weak (fun b _ hb => ?_), rfl, fun i cs x h1 h2 => ?_⟩⟩
    · subst hb
      exact ⟨by omega, fun h => by have := (hlv _ h).2; omega⟩
    · match i, h1, h2 with
      | 0, h1, h2 =>
        simp [ruE] at h1 h2
        subst h1 h2
        exact ⟨_, rfl, SlT.nilZ _ _⟩
      | i + 1, h1, _ => simp at h1
  have hoT := OwnG.add imp_ru hcl hliZ hnew hc6 hat6 ho6
  refine ⟨aset kv e (.bool true), v7, ⟨?_, ?_, ?_, ?_, asetE_bool hS.t e, ?_, ?_⟩, ?_, ?_⟩
  · exact ((((hS.g.ch hc3 (by simpa using hB.gm)).ch h3Z (by simp)).ch hc6 (hno _ hB.g)).ch hcS (by simpa using hB.gl))
  · exact ((((hS.c.ch hc3 (by simpa using hB.cm)).ch h3Z (by simp)).ch hc6 (hno _ hB.c)).ch hcS (by simpa using hB.cl))
  · exact (((hm3.ch h3Z (by simp)).ch hc6 (hno _ hB.m)).ch hcS (by simpa using hB.ml))
  · exact ((((hS.l.ch hc3 (by simpa using Ne.symm hB.ml)).ch h3Z (by simp)).ch hc6 (hno _ hB.l)).set_ 0 _)
  · rw [keys_aset, if_neg (by rw [hS.ks]; exact hne), hS.ks]
  · rw [List.map_append]
    exact hoT.ch imp_ru hcS (by intro x hx; simp at hx; subst hx; exact .inl hB.l)
  · exact ((((hc0.of_nil).step hc3 (by simp)).step h3Z (by simp)).step hc6 (by intro x hx; exact .inl (by simp [hx]))).step hcS (by simp)
  · rcases hat6 with h | h
    · exact .inl h
    · exact .inr ⟨_, h, by omega⟩

set_option maxRecDepth 100000 in
set_option maxHeartbeats 8000000 in
theorem addE_ (A : List Tm) (hd k : Nat) (hh : hd < A.length) (hk : k < A.length) (nt : Bool) (hn : A.length ≤ 1000000) (p : Nat → Prop) (a : Option Addr) (n c : Nat) (vr v : Value) (kv : List (Ed × Value)) (es : List Ed) (w : World) (base Bg Bc Bm Bl : Nat)
    (h : SlT p w (.slice a n c) A) (hB : AddB base Bg Bc Bm Bl) (hS : AddS w base Bg Bc Bm Bl (.slice a n c) vr kv v es) (hes : es.length ≤ 1000000) (hbs : base ≤ w.heap.size) (hr : vr.oneCell' = true) (hpm : ¬ p Bm) :
    Calls Tryz.prog 50 #[.int .i64 (hd : Int), .int .i64 (k : Int), .bool nt, .pointer (some ⟨Bg, 0, none⟩), .pointer (some ⟨Bc, 0, none⟩), .pointer (some ⟨Bl, 0, none⟩)] w
      (AddPost base Bg Bc Bm Bl (.slice a n c) vr v (addE es ⟨nmA A (hd : Int), nmA A (k : Int), nt⟩) w) := by
  obtain ⟨a0, c0, e, hlc, hm⟩ := h.form
  injection e with e1 e2 e3
  subst e1 e2 e3
  have HREL := Lib.hid (fun j hj wz hz => relation_ A j hj p a A.length c vr wz hz hr hn)
  have HH := Lib.hid hh
  have HK := Lib.hid hk
  have HSL := Lib.hid h
  obtain ⟨b, o, rfl, d0⟩ := h.nameAt hh
  obtain ⟨b', o', e, d1⟩ := h.nameAt hk
  injection e with e
  injection e with e1 e2
  subst e1 e2
  have HE : Hid (addE es ⟨nmA A (hd : Int), nmA A (k : Int), nt⟩ = if (⟨nmA A (hd : Int), nmA A (k : Int), nt⟩ : Ed) ∈ es then es else es ++ [⟨nmA A (hd : Int), nmA A (k : Int), nt⟩]) := rfl
  have hmet := metE hS.t hS.ks ⟨nmA A (hd : Int), nmA A (k : Int), nt⟩
  have HL := Lib.hid (show ∀ q, decide ((⟨nmA A (hd : Int), nmA A (k : Int), nt⟩ : Ed) ∈ es) = q → (q = true → addE es ⟨nmA A (hd : Int), nmA A (k : Int), nt⟩ = es) ∧ (q = false → addE es ⟨nmA A (hd : Int), nmA A (k : Int), nt⟩ = es ++ [⟨nmA A (hd : Int), nmA A (k : Int), nt⟩] ∧ (⟨nmA A (hd : Int), nmA A (k : Int), nt⟩ : Ed) ∉ es) from fun q hq => by
    rw [HE.out]
    constructor
    · intro h1; rw [h1] at hq; rw [if_pos (of_decide_eq_true hq)]
    · intro h1; rw [h1] at hq; exact ⟨if_neg (of_decide_eq_false hq), of_decide_eq_false hq⟩)
  clear HE
  generalize addE es ⟨nmA A (hd : Int), nmA A (k : Int), nt⟩ = R at *
  have HNF : Hid (nmA A (hd : Int) = nmA A (hd : Int)) := rfl
  have HNT : Hid (nmA A (k : Int) = nmA A (k : Int)) := rfl
  generalize hnf : nmA A (hd : Int) = nf at *
  generalize hnt : nmA A (k : Int) = nt' at *
  replace HNF := Lib.hid hnf
  replace HNT := Lib.hid hnt
  clear hnf hnt
  unfold maxLen at hm
  have i1 : (hd : Int) < (A.length : Int) := by omega
  have i2 : (k : Int) < (A.length : Int) := by omega
  have i3 : (0 : Int) ≤ (hd : Int) := by omega
  have i4 : (0 : Int) ≤ (k : Int) := by omega
  have hgl := hS.g
  have g0 := hgl.cell 0
  have g1 := hgl.cell 1
  have z0 := World.new_ne w _ g0
  have z1 := World.new_ne w _ d0
  generalize hq : decide ((⟨nf, nt', nt⟩ : Ed) ∈ es) = q at *
  have HLQ := Lib.hid (HL.out q rfl)
  clear HL hq
  go_enter Tryz.func50, Tryz.ntmps50
  go_wp2
  go_region_held3 (fun w' => w'.cell? ⟨Bg, 0, none⟩ = some (.slice (some ⟨b, o, none⟩) A.length c) ∧ w'.cell? ⟨b, o + hd * 2, none⟩ = some (.string nf) ∧ w'.cell? ⟨b, o + k * 2, none⟩ = some (.string nt')) (go_keep) (fail)
  have hbe : Blk ((w.alloc (.cells #[.string nf, .string nt', .bool nt] 81)).drew) w.heap.size 81 #[.string nf, .string nt', .bool nt] := (Blk.new _ _ _).drew
  have hc0 : Ch [] w ((w.alloc (.cells #[.string nf, .string nt', .bool nt] 81)).drew) := ((Ch.refl _ _).alloc _).drew
  generalize (w.alloc (.cells #[.string nf, .string nt', .bool nt] 81)).drew = wE at *
  have hS0 := hS.ch hc0
  have x0 := hbe.cell 0
  have x1 := hbe.cell 1
  have x2 := hbe.cell 2
  have x3 := hS0.c.cell 0
  have hlk := hS0.m.look edKeys mE (zB wE) ⟨nf, nt', nt⟩ false
  simp only [encE, Ed.enc, hmet] at hlk
  clear g0 g1 z0 z1 hmet
  cases q with
  | true =>
    obtain rfl := HLQ.out.1 rfl
    go_wp2
    go_end0
    exact ⟨rfl, kv, v, hS0, hc0.of_nil, .inl rfl⟩
  | false =>
    have HNE := Lib.hid (HLQ.out.2 rfl).2
    obtain rfl := (HLQ.out.2 rfl).1
    clear HLQ
    have HSS := Lib.hid hS0
    have HBB := Lib.hid hB
    clear hS hS0 hB
    go_wp2_with (at_mapUpdate; refine wpl_upd rfl _ _ _ _ rfl edKeys mE rfl (b := Bm) (kv := kv) HSS.out.m ⟨nf, nt', nt⟩ rfl (val := .bool true) rfl ?_; intro w3 hm3 hc3 hs3)
    have h3 : SlT p w3 (.slice (some ⟨b, o, none⟩) A.length c) A := (HSL.out.ch0 hc0).ch hc3 (by intro b2 _ hb; simp; rintro rfl; exact hpm hb)
    have hrel1 := fun wz (hz : Ch [] w3 wz) => HREL.out hd HH.out wz (h3.ch0 hz)
    have hrel2 := fun wz (hz : Ch [] w3 wz) => HREL.out k HK.out wz (h3.ch0 hz)
    rw [HNF.out] at hrel1
    rw [HNT.out] at hrel2
    have hg3 := HSS.out.g.ch hc3 (by simpa using HBB.out.gm)
    have hcc3 := HSS.out.c.ch hc3 (by simpa using HBB.out.cm)
    have hl3 := HSS.out.l.ch hc3 (by simpa using (Ne.symm HBB.out.ml))
    obtain ⟨css, hown, hcl, hli⟩ := HSS.out.o
    have HNO := Lib.hid (show ∀ g, g < base → g ∉ v.ownBlock.toList from fun g hg => own_not hown hg)
    have hown3 := hown.ch hc3 (fun g hg => by have := (hown.lt hg).1; have := HBB.out.m; simp; omega)
    have HCL : Hid (css.length ≤ 1000000) := by unfold Hid; rw [hcl]; simpa using hes
    have HSZ : Hid (base ≤ w3.heap.size) := by have := hc0.size; have := hc3.size; unfold Hid; omega
    have g0 := hg3.cell 0
    have g1 := hg3.cell 1
    have l3 := hl3.cell 0
    have n0 : ¬ Bl = Bg := fun e => HBB.out.gl e.symm
    clear x0 x1 x2 x3 hlk hes hbs
    refine wp_region_held_drew (S := (fun w' => w'.cell? ⟨Bg, 0, none⟩ = some (.slice (some ⟨b, o, none⟩) A.length c) ∧ w'.cell? ⟨Bg, 1, none⟩ = some vr)) (by kernel_rfl) ?_ (fun hHeld => ?_)
    focus ((try dsimp only); go_keep)
    refine wpAnyH_take (i := 1) (oi := ⟨some 31, _, _, _, _, _⟩) (v := ?_) rfl (by kernel_rfl) (by kernel_rfl) (by kernel_rfl) (fun _ _ _ h => h) (Or.inl ⟨by rfl, ?_⟩) (by assumption) ?_
    rotate_left
    focus (intro wq hSw; (try dsimp only at hSw); go_simp; (try with_reducible rfl); done)
    (try simp only [Act.put, List.setIfInBounds_toArray, List.set_cons_zero, List.set_cons_succ])
    refine wpAnyH_take (i := 2) (oi := ⟨some 32, _, _, _, _, _⟩) (v := ?_) rfl (by kernel_rfl) (by kernel_rfl) (by kernel_rfl) (fun _ _ _ h => h) (Or.inl ⟨by rfl, ?_⟩) (by assumption) ?_
    rotate_left
    focus (intro wq hSw; (try dsimp only at hSw); go_simp; (try with_reducible rfl); done)
    (try simp only [Act.put, List.setIfInBounds_toArray, List.set_cons_zero, List.set_cons_succ])
    refine wpAnyH_take (i := 4) (oi := ⟨some 34, _, _, _, _, _⟩) (v := ?_) rfl (by kernel_rfl) (by kernel_rfl) (by kernel_rfl) (fun _ _ _ h => h) (Or.inl ⟨by rfl, ?_⟩) (by assumption) ?_
    rotate_left
    focus (intro wq hSw; (try dsimp only at hSw); go_simp; (try with_reducible rfl); done)
    (try simp only [Act.put, List.setIfInBounds_toArray, List.set_cons_zero, List.set_cons_succ])
    refine wpAnyH_take (i := 5) (oi := ⟨some 35, _, _, _, _, _⟩) (v := ?_) rfl (by kernel_rfl) (by kernel_rfl) (by kernel_rfl) (fun _ _ _ h => h) (Or.inl ⟨by rfl, ?_⟩) (by assumption) ?_
    rotate_left
    focus (intro wq hSw; (try dsimp only at hSw); go_simp; (try with_reducible rfl); done)
    (try simp only [Act.put, List.setIfInBounds_toArray, List.set_cons_zero, List.set_cons_succ])
    refine wpAnyH_take (i := 6) (oi := ⟨some 36, _, _, _, _, _⟩) (v := ?_) rfl (by kernel_rfl) (by kernel_rfl) (by kernel_rfl) (fun _ _ _ h => h) (Or.inl ⟨by rfl, ?_⟩) (by assumption) ?_
    rotate_left
    focus (intro wq hSw; (try dsimp only at hSw); go_simp; (try with_reducible rfl); done)
    (try simp only [Act.put, List.setIfInBounds_toArray, List.set_cons_zero, List.set_cons_succ])
    refine wpAnyH_ready (rs := [0, 3]) (by kernel_rfl) (by simp) ?_
    refine AllReadyH.cons (o := ⟨some 30, _, _, _, _, _⟩) rfl (fun K hK => ?_) ?_
    go_simp
    refine hK.out _ _ ?_ (fun hHeld => ?_)
    focus ((try dsimp only); go_keep)
    clear hK K
    (try simp only [Act.put, List.setIfInBounds_toArray, List.set_cons_zero, List.set_cons_succ])
    refine wpAnyH_ready (rs := [3]) (by kernel_rfl) (by simp) ?_
    refine AllReadyH.cons (o := ⟨some 33, _, _, _, _, _⟩) rfl (fun K hK => ?_) ?_
    (go_simp; with_reducible refine (hrel1 _ ((Ch.refl [] w3).drew)).mono ?_; rintro e w4 ⟨rfl, hc4⟩; have hg4 := (Blk.drew hg3).ch hc4 (by simp); have hl4 := (Blk.drew hl3).ch hc4 (by simp); have s0 := hg4.cell 0; have s1 := hg4.cell 1; have l4 := hl4.cell 0)
    (try go_wp2_with fail)
    refine hK.out _ _ ?_ (fun hHeld => ?_)
    focus ((try dsimp only); go_keep)
    clear hK K
    (try simp only [Act.put, List.setIfInBounds_toArray, List.set_cons_zero, List.set_cons_succ])
    refine wpAnyH_ready (rs := [7]) (by kernel_rfl) (by simp) ?_
    refine AllReadyH.cons (o := ⟨some 37, _, _, _, _, _⟩) rfl (fun K hK => ?_) ?_
    (go_simp; with_reducible refine (hrel2 _ (((Ch.refl [] w3).drew).trans hc4)).mono ?_; rintro e w5 ⟨rfl, hc5⟩; have hg5 := hg4.ch hc5 (by simp); have hl5 := hl4.ch hc5 (by simp); have s2 := hg5.cell 0; have s3 := hg5.cell 1; have s4 := (hg5.alloc (.cells #[.bool nt, .string nt', .slice none 0 0] 84)).cell 0; have s5 := (hg5.alloc (.cells #[.bool nt, .string nt', .slice none 0 0] 84)).cell 1; have s6 := ((hg5.alloc (.cells #[.bool nt, .string nt', .slice none 0 0] 84)).alloc (.cells #[.string nf, .slice none 0 0, .slice (some ⟨w5.heap.size, 0, none⟩) 1 1] 87)).cell 0; have s7 := ((hg5.alloc (.cells #[.bool nt, .string nt', .slice none 0 0] 84)).alloc (.cells #[.string nf, .slice none 0 0, .slice (some ⟨w5.heap.size, 0, none⟩) 1 1] 87)).cell 1; have l5 := hl5.cell 0; have l6 := (hl5.alloc (.cells #[.bool nt, .string nt', .slice none 0 0] 84)).cell 0; have l7 := ((hl5.alloc (.cells #[.bool nt, .string nt', .slice none 0 0] 84)).alloc (.cells #[.string nf, .slice none 0 0, .slice (some ⟨w5.heap.size, 0, none⟩) 1 1] 87)).cell 0; have hcZ : Ch [] w3 ((w5.alloc (.cells #[.bool nt, .string nt', .slice none 0 0] 84)).alloc (.cells #[.string nf, .slice none 0 0, .slice (some ⟨w5.heap.size, 0, none⟩) 1 1] 87)) := (((((Ch.refl [] w3).drew).trans hc4).trans hc5).alloc _).alloc _; have hbZ := Nat.le_trans HSZ.out hcZ.size; have hone := one_up w5 (.cells #[.bool nt, .string nt', .slice none 0 0] 84) [.string nf, .slice none 0 0, .slice (some ⟨w5.heap.size, 0, none⟩) 1 1] rfl (by simp [Value.oneCell']))
    (try go_wp2_with fail)
    refine hK.out _ _ ?_ (fun hHeld => ?_)
    focus ((try dsimp only); go_keep)
    clear hK K
    (try simp only [Act.put, List.setIfInBounds_toArray, List.set_cons_zero, List.set_cons_succ])
    refine wpAnyH_take (i := 8) (oi := ⟨some 38, _, _, _, _, _⟩) (v := ?_) rfl (by kernel_rfl) (by kernel_rfl) (by kernel_rfl) (fun _ _ _ h => h) (Or.inl ⟨by rfl, ?_⟩) (by assumption) ?_
    rotate_left
    focus (intro wq hSw; (try dsimp only at hSw); go_simp; (try with_reducible rfl); done)
    (try simp only [Act.put, List.setIfInBounds_toArray, List.set_cons_zero, List.set_cons_succ])
    refine wpAnyH_ready (rs := [9]) (by kernel_rfl) (by simp) ?_
    refine AllReadyH.cons (o := ⟨some 39, _, _, _, _, _⟩) rfl (fun K hK => ?_) ?_
    go_simp
    refine hK.out _ _ ?_ (fun hHeld => ?_)
    focus ((try dsimp only); go_keep)
    clear hK K
    (try simp only [Act.put, List.setIfInBounds_toArray, List.set_cons_zero, List.set_cons_succ])
    refine wpAnyH_take (i := 10) (oi := ⟨some 40, _, _, _, _, _⟩) (v := ?_) rfl (by kernel_rfl) (by kernel_rfl) (by kernel_rfl) (fun _ _ _ h => h) (Or.inl ⟨by rfl, ?_⟩) (by assumption) ?_
    rotate_left
    focus (intro wq hSw; (try dsimp only at hSw); go_simp; (try with_reducible rfl); done)
    (try simp only [Act.put, List.setIfInBounds_toArray, List.set_cons_zero, List.set_cons_succ])
    refine wpAnyH_ready (rs := [11]) (by kernel_rfl) (by simp) ?_
    refine AllReadyH.cons (o := ⟨some 41, _, _, _, _, _⟩) rfl (fun K hK => ?_) ?_
    go_simp
    refine hK.out _ _ ?_ (fun hHeld => ?_)
    focus ((try dsimp only); go_keep)
    clear hK K
    (try simp only [Act.put, List.setIfInBounds_toArray, List.set_cons_zero, List.set_cons_succ])
    refine wpAnyH_ready (rs := [12]) (by kernel_rfl) (by simp) ?_
    refine AllReadyH.cons (o := ⟨some 42, _, _, _, _, _⟩) rfl (fun K hK => ?_) ?_
    (refine step_append_sl rfl _ _ _ rfl elR (base := base) (v := v) rfl (hown3.ch0' hcZ) rfl hone (show (css.length + 1) * 64 ≤ 140737488355328 by have := HCL.out; omega) hbZ ?_; intro v6 w6 ho6 hc6 hat6 hn6; clear hn6; obtain ⟨a7, c7, rfl⟩ := ho6.form'; have hl6 := ((hl5.alloc (.cells #[.bool nt, .string nt', .slice none 0 0] 84)).alloc (.cells #[.string nf, .slice none 0 0, .slice (some ⟨w5.heap.size, 0, none⟩) 1 1] 87)).ch hc6 (HNO.out _ HBB.out.l); have hg6 := ((hg5.alloc (.cells #[.bool nt, .string nt', .slice none 0 0] 84)).alloc (.cells #[.string nf, .slice none 0 0, .slice (some ⟨w5.heap.size, 0, none⟩) 1 1] 87)).ch hc6 (HNO.out _ HBB.out.g); have x6 := hl6.cell 0; have y6 := hl6.frozen 0; have t0 := hg6.cell 0; have t1 := hg6.cell 1)
    refine hK.out _ _ ?_ (fun hHeld => ?_)
    focus ((try dsimp only); go_keep)
    clear hK K
    (try simp only [Act.put, List.setIfInBounds_toArray, List.set_cons_zero, List.set_cons_succ])
    refine wpAnyH_ready (rs := [13]) (by kernel_rfl) (by simp) ?_
    refine AllReadyH.cons (o := ⟨none, _, _, _, _, _⟩) rfl (fun K hK => ?_) ?_
    go_simp
    refine hK.out _ _ ?_ (fun hHeld => ?_)
    focus ((try dsimp only); go_keep)
    clear hK K
    (try simp only [Act.put, List.setIfInBounds_toArray, List.set_cons_zero, List.set_cons_succ])
    refine wpAnyH_done (by kernel_rfl) ?_ _
    rotate_left
    exact AllReadyH.nil
    exact AllReadyH.nil
    exact AllReadyH.nil
    exact AllReadyH.nil
    exact AllReadyH.nil
    exact AllReadyH.nil
    refine AllReadyH.cons (o := ⟨some 33, _, _, _, _, _⟩) rfl (fun K hK => ?_) ?_
    (go_simp; with_reducible refine (hrel1 _ ((Ch.refl [] w3).drew)).mono ?_; rintro e w4 ⟨rfl, hc4⟩; have hg4 := (Blk.drew hg3).ch hc4 (by simp); have hl4 := (Blk.drew hl3).ch hc4 (by simp); have s0 := hg4.cell 0; have s1 := hg4.cell 1; have l4 := hl4.cell 0)
    (try go_wp2_with fail)
    refine hK.out _ _ ?_ (fun hHeld => ?_)
    focus ((try dsimp only); go_keep)
    clear hK K
    (try simp only [Act.put, List.setIfInBounds_toArray, List.set_cons_zero, List.set_cons_succ])
    refine wpAnyH_ready (rs := [0, 7]) (by kernel_rfl) (by simp) ?_
    refine AllReadyH.cons (o := ⟨some 30, _, _, _, _, _⟩) rfl (fun K hK => ?_) ?_
    go_simp
    refine hK.out _ _ ?_ (fun hHeld => ?_)
    focus ((try dsimp only); go_keep)
    clear hK K
    (try simp only [Act.put, List.setIfInBounds_toArray, List.set_cons_zero, List.set_cons_succ])
    refine wpAnyH_ready (rs := [7]) (by kernel_rfl) (by simp) ?_
    refine AllReadyH.cons (o := ⟨some 37, _, _, _, _, _⟩) rfl (fun K hK => ?_) ?_
    (go_simp; with_reducible refine (hrel2 _ (((Ch.refl [] w3).drew).trans hc4)).mono ?_; rintro e w5 ⟨rfl, hc5⟩; have hg5 := hg4.ch hc5 (by simp); have hl5 := hl4.ch hc5 (by simp); have s2 := hg5.cell 0; have s3 := hg5.cell 1; have s4 := (hg5.alloc (.cells #[.bool nt, .string nt', .slice none 0 0] 84)).cell 0; have s5 := (hg5.alloc (.cells #[.bool nt, .string nt', .slice none 0 0] 84)).cell 1; have s6 := ((hg5.alloc (.cells #[.bool nt, .string nt', .slice none 0 0] 84)).alloc (.cells #[.string nf, .slice none 0 0, .slice (some ⟨w5.heap.size, 0, none⟩) 1 1] 87)).cell 0; have s7 := ((hg5.alloc (.cells #[.bool nt, .string nt', .slice none 0 0] 84)).alloc (.cells #[.string nf, .slice none 0 0, .slice (some ⟨w5.heap.size, 0, none⟩) 1 1] 87)).cell 1; have l5 := hl5.cell 0; have l6 := (hl5.alloc (.cells #[.bool nt, .string nt', .slice none 0 0] 84)).cell 0; have l7 := ((hl5.alloc (.cells #[.bool nt, .string nt', .slice none 0 0] 84)).alloc (.cells #[.string nf, .slice none 0 0, .slice (some ⟨w5.heap.size, 0, none⟩) 1 1] 87)).cell 0; have hcZ : Ch [] w3 ((w5.alloc (.cells #[.bool nt, .string nt', .slice none 0 0] 84)).alloc (.cells #[.string nf, .slice none 0 0, .slice (some ⟨w5.heap.size, 0, none⟩) 1 1] 87)) := (((((Ch.refl [] w3).drew).trans hc4).trans hc5).alloc _).alloc _; have hbZ := Nat.le_trans HSZ.out hcZ.size; have hone := one_up w5 (.cells #[.bool nt, .string nt', .slice none 0 0] 84) [.string nf, .slice none 0 0, .slice (some ⟨w5.heap.size, 0, none⟩) 1 1] rfl (by simp [Value.oneCell']))
    (try go_wp2_with fail)
    refine hK.out _ _ ?_ (fun hHeld => ?_)
    focus ((try dsimp only); go_keep)
    clear hK K
    (try simp only [Act.put, List.setIfInBounds_toArray, List.set_cons_zero, List.set_cons_succ])
    refine wpAnyH_take (i := 8) (oi := ⟨some 38, _, _, _, _, _⟩) (v := ?_) rfl (by kernel_rfl) (by kernel_rfl) (by kernel_rfl) (fun _ _ _ h => h) (Or.inl ⟨by rfl, ?_⟩) (by assumption) ?_
    rotate_left
    focus (intro wq hSw; (try dsimp only at hSw); go_simp; (try with_reducible rfl); done)
    (try simp only [Act.put, List.setIfInBounds_toArray, List.set_cons_zero, List.set_cons_succ])
    refine wpAnyH_ready (rs := [9]) (by kernel_rfl) (by simp) ?_
    refine AllReadyH.cons (o := ⟨some 39, _, _, _, _, _⟩) rfl (fun K hK => ?_) ?_
    go_simp
    refine hK.out _ _ ?_ (fun hHeld => ?_)
    focus ((try dsimp only); go_keep)
    clear hK K
    (try simp only [Act.put, List.setIfInBounds_toArray, List.set_cons_zero, List.set_cons_succ])
    refine wpAnyH_take (i := 10) (oi := ⟨some 40, _, _, _, _, _⟩) (v := ?_) rfl (by kernel_rfl) (by kernel_rfl) (by kernel_rfl) (fun _ _ _ h => h) (Or.inl ⟨by rfl, ?_⟩) (by assumption) ?_
    rotate_left
    focus (intro wq hSw; (try dsimp only at hSw); go_simp; (try with_reducible rfl); done)
    (try simp only [Act.put, List.setIfInBounds_toArray, List.set_cons_zero, List.set_cons_succ])
    refine wpAnyH_ready (rs := [11]) (by kernel_rfl) (by simp) ?_
    refine AllReadyH.cons (o := ⟨some 41, _, _, _, _, _⟩) rfl (fun K hK => ?_) ?_
    go_simp
    refine hK.out _ _ ?_ (fun hHeld => ?_)
    focus ((try dsimp only); go_keep)
    clear hK K
    (try simp only [Act.put, List.setIfInBounds_toArray, List.set_cons_zero, List.set_cons_succ])
    refine wpAnyH_ready (rs := [12]) (by kernel_rfl) (by simp) ?_
    refine AllReadyH.cons (o := ⟨some 42, _, _, _, _, _⟩) rfl (fun K hK => ?_) ?_
    (refine step_append_sl rfl _ _ _ rfl elR (base := base) (v := v) rfl (hown3.ch0' hcZ) rfl hone (show (css.length + 1) * 64 ≤ 140737488355328 by have := HCL.out; omega) hbZ ?_; intro v6 w6 ho6 hc6 hat6 hn6; clear hn6; obtain ⟨a7, c7, rfl⟩ := ho6.form'; have hl6 := ((hl5.alloc (.cells #[.bool nt, .string nt', .slice none 0 0] 84)).alloc (.cells #[.string nf, .slice none 0 0, .slice (some ⟨w5.heap.size, 0, none⟩) 1 1] 87)).ch hc6 (HNO.out _ HBB.out.l); have hg6 := ((hg5.alloc (.cells #[.bool nt, .string nt', .slice none 0 0] 84)).alloc (.cells #[.string nf, .slice none 0 0, .slice (some ⟨w5.heap.size, 0, none⟩) 1 1] 87)).ch hc6 (HNO.out _ HBB.out.g); have x6 := hl6.cell 0; have y6 := hl6.frozen 0; have t0 := hg6.cell 0; have t1 := hg6.cell 1)
    refine hK.out _ _ ?_ (fun hHeld => ?_)
    focus ((try dsimp only); go_keep)
    clear hK K
    (try simp only [Act.put, List.setIfInBounds_toArray, List.set_cons_zero, List.set_cons_succ])
    refine wpAnyH_ready (rs := [13]) (by kernel_rfl) (by simp) ?_
    refine AllReadyH.cons (o := ⟨none, _, _, _, _, _⟩) rfl (fun K hK => ?_) ?_
    go_simp
    refine hK.out _ _ ?_ (fun hHeld => ?_)
    focus ((try dsimp only); go_keep)
    clear hK K
    (try simp only [Act.put, List.setIfInBounds_toArray, List.set_cons_zero, List.set_cons_succ])
    refine wpAnyH_done (by kernel_rfl) ?_ _
    rotate_left
    exact AllReadyH.nil
    exact AllReadyH.nil
    exact AllReadyH.nil
    exact AllReadyH.nil
    exact AllReadyH.nil
    refine AllReadyH.cons (o := ⟨some 37, _, _, _, _, _⟩) rfl (fun K hK => ?_) ?_
    (go_simp; with_reducible refine (hrel2 _ (((Ch.refl [] w3).drew).trans hc4)).mono ?_; rintro e w5 ⟨rfl, hc5⟩; have hg5 := hg4.ch hc5 (by simp); have hl5 := hl4.ch hc5 (by simp); have s2 := hg5.cell 0; have s3 := hg5.cell 1; have s4 := (hg5.alloc (.cells #[.bool nt, .string nt', .slice none 0 0] 84)).cell 0; have s5 := (hg5.alloc (.cells #[.bool nt, .string nt', .slice none 0 0] 84)).cell 1; have s6 := ((hg5.alloc (.cells #[.bool nt, .string nt', .slice none 0 0] 84)).alloc (.cells #[.string nf, .slice none 0 0, .slice (some ⟨w5.heap.size, 0, none⟩) 1 1] 87)).cell 0; have s7 := ((hg5.alloc (.cells #[.bool nt, .string nt', .slice none 0 0] 84)).alloc (.cells #[.string nf, .slice none 0 0, .slice (some ⟨w5.heap.size, 0, none⟩) 1 1] 87)).cell 1; have l5 := hl5.cell 0; have l6 := (hl5.alloc (.cells #[.bool nt, .string nt', .slice none 0 0] 84)).cell 0; have l7 := ((hl5.alloc (.cells #[.bool nt, .string nt', .slice none 0 0] 84)).alloc (.cells #[.string nf, .slice none 0 0, .slice (some ⟨w5.heap.size, 0, none⟩) 1 1] 87)).cell 0; have hcZ : Ch [] w3 ((w5.alloc (.cells #[.bool nt, .string nt', .slice none 0 0] 84)).alloc (.cells #[.string nf, .slice none 0 0, .slice (some ⟨w5.heap.size, 0, none⟩) 1 1] 87)) := (((((Ch.refl [] w3).drew).trans hc4).trans hc5).alloc _).alloc _; have hbZ := Nat.le_trans HSZ.out hcZ.size; have hone := one_up w5 (.cells #[.bool nt, .string nt', .slice none 0 0] 84) [.string nf, .slice none 0 0, .slice (some ⟨w5.heap.size, 0, none⟩) 1 1] rfl (by simp [Value.oneCell']))
    (try go_wp2_with fail)
    refine hK.out _ _ ?_ (fun hHeld => ?_)
    focus ((try dsimp only); go_keep)
    clear hK K
    (try simp only [Act.put, List.setIfInBounds_toArray, List.set_cons_zero, List.set_cons_succ])
    refine wpAnyH_take (i := 8) (oi := ⟨some 38, _, _, _, _, _⟩) (v := ?_) rfl (by kernel_rfl) (by kernel_rfl) (by kernel_rfl) (fun _ _ _ h => h) (Or.inl ⟨by rfl, ?_⟩) (by assumption) ?_
    rotate_left
    focus (intro wq hSw; (try dsimp only at hSw); go_simp; (try with_reducible rfl); done)
    (try simp only [Act.put, List.setIfInBounds_toArray, List.set_cons_zero, List.set_cons_succ])
    refine wpAnyH_ready (rs := [0, 9]) (by kernel_rfl) (by simp) ?_
    refine AllReadyH.cons (o := ⟨some 30, _, _, _, _, _⟩) rfl (fun K hK => ?_) ?_
    go_simp
    refine hK.out _ _ ?_ (fun hHeld => ?_)
    focus ((try dsimp only); go_keep)
    clear hK K
    (try simp only [Act.put, List.setIfInBounds_toArray, List.set_cons_zero, List.set_cons_succ])
    refine wpAnyH_ready (rs := [9]) (by kernel_rfl) (by simp) ?_
    refine AllReadyH.cons (o := ⟨some 39, _, _, _, _, _⟩) rfl (fun K hK => ?_) ?_
    go_simp
    refine hK.out _ _ ?_ (fun hHeld => ?_)
    focus ((try dsimp only); go_keep)
    clear hK K
    (try simp only [Act.put, List.setIfInBounds_toArray, List.set_cons_zero, List.set_cons_succ])
    refine wpAnyH_take (i := 10) (oi := ⟨some 40, _, _, _, _, _⟩) (v := ?_) rfl (by kernel_rfl) (by kernel_rfl) (by kernel_rfl) (fun _ _ _ h => h) (Or.inl ⟨by rfl, ?_⟩) (by assumption) ?_
    rotate_left
    focus (intro wq hSw; (try dsimp only at hSw); go_simp; (try with_reducible rfl); done)
    (try simp only [Act.put, List.setIfInBounds_toArray, List.set_cons_zero, List.set_cons_succ])
    refine wpAnyH_ready (rs := [11]) (by kernel_rfl) (by simp) ?_
    refine AllReadyH.cons (o := ⟨some 41, _, _, _, _, _⟩) rfl (fun K hK => ?_) ?_
    go_simp
    refine hK.out _ _ ?_ (fun hHeld => ?_)
    focus ((try dsimp only); go_keep)
    clear hK K
    (try simp only [Act.put, List.setIfInBounds_toArray, List.set_cons_zero, List.set_cons_succ])
    refine wpAnyH_ready (rs := [12]) (by kernel_rfl) (by simp) ?_
    refine AllReadyH.cons (o := ⟨some 42, _, _, _, _, _⟩) rfl (fun K hK => ?_) ?_
    (refine step_append_sl rfl _ _ _ rfl elR (base := base) (v := v) rfl (hown3.ch0' hcZ) rfl hone (show (css.length + 1) * 64 ≤ 140737488355328 by have := HCL.out; omega) hbZ ?_; intro v6 w6 ho6 hc6 hat6 hn6; clear hn6; obtain ⟨a7, c7, rfl⟩ := ho6.form'; have hl6 := ((hl5.alloc (.cells #[.bool nt, .string nt', .slice none 0 0] 84)).alloc (.cells #[.string nf, .slice none 0 0, .slice (some ⟨w5.heap.size, 0, none⟩) 1 1] 87)).ch hc6 (HNO.out _ HBB.out.l); have hg6 := ((hg5.alloc (.cells #[.bool nt, .string nt', .slice none 0 0] 84)).alloc (.cells #[.string nf, .slice none 0 0, .slice (some ⟨w5.heap.size, 0, none⟩) 1 1] 87)).ch hc6 (HNO.out _ HBB.out.g); have x6 := hl6.cell 0; have y6 := hl6.frozen 0; have t0 := hg6.cell 0; have t1 := hg6.cell 1)
    refine hK.out _ _ ?_ (fun hHeld => ?_)
    focus ((try dsimp only); go_keep)
    clear hK K
    (try simp only [Act.put, List.setIfInBounds_toArray, List.set_cons_zero, List.set_cons_succ])
    refine wpAnyH_ready (rs := [13]) (by kernel_rfl) (by simp) ?_
    refine AllReadyH.cons (o := ⟨none, _, _, _, _, _⟩) rfl (fun K hK => ?_) ?_
    go_simp
    refine hK.out _ _ ?_ (fun hHeld => ?_)
    focus ((try dsimp only); go_keep)
    clear hK K
    (try simp only [Act.put, List.setIfInBounds_toArray, List.set_cons_zero, List.set_cons_succ])
    refine wpAnyH_done (by kernel_rfl) ?_ _
    rotate_left
    exact AllReadyH.nil
    exact AllReadyH.nil
    exact AllReadyH.nil
    exact AllReadyH.nil
    refine AllReadyH.cons (o := ⟨some 39, _, _, _, _, _⟩) rfl (fun K hK => ?_) ?_
    go_simp
    refine hK.out _ _ ?_ (fun hHeld => ?_)
    focus ((try dsimp only); go_keep)
    clear hK K
    (try simp only [Act.put, List.setIfInBounds_toArray, List.set_cons_zero, List.set_cons_succ])
    refine wpAnyH_take (i := 10) (oi := ⟨some 40, _, _, _, _, _⟩) (v := ?_) rfl (by kernel_rfl) (by kernel_rfl) (by kernel_rfl) (fun _ _ _ h => h) (Or.inl ⟨by rfl, ?_⟩) (by assumption) ?_
    rotate_left
    focus (intro wq hSw; (try dsimp only at hSw); go_simp; (try with_reducible rfl); done)
    (try simp only [Act.put, List.setIfInBounds_toArray, List.set_cons_zero, List.set_cons_succ])
    refine wpAnyH_ready (rs := [0, 11]) (by kernel_rfl) (by simp) ?_
    refine AllReadyH.cons (o := ⟨some 30, _, _, _, _, _⟩) rfl (fun K hK => ?_) ?_
    go_simp
    refine hK.out _ _ ?_ (fun hHeld => ?_)
    focus ((try dsimp only); go_keep)
    clear hK K
    (try simp only [Act.put, List.setIfInBounds_toArray, List.set_cons_zero, List.set_cons_succ])
    refine wpAnyH_ready (rs := [11]) (by kernel_rfl) (by simp) ?_
    refine AllReadyH.cons (o := ⟨some 41, _, _, _, _, _⟩) rfl (fun K hK => ?_) ?_
    go_simp
    refine hK.out _ _ ?_ (fun hHeld => ?_)
    focus ((try dsimp only); go_keep)
    clear hK K
    (try simp only [Act.put, List.setIfInBounds_toArray, List.set_cons_zero, List.set_cons_succ])
    refine wpAnyH_ready (rs := [12]) (by kernel_rfl) (by simp) ?_
    refine AllReadyH.cons (o := ⟨some 42, _, _, _, _, _⟩) rfl (fun K hK => ?_) ?_
    (refine step_append_sl rfl _ _ _ rfl elR (base := base) (v := v) rfl (hown3.ch0' hcZ) rfl hone (show (css.length + 1) * 64 ≤ 140737488355328 by have := HCL.out; omega) hbZ ?_; intro v6 w6 ho6 hc6 hat6 hn6; clear hn6; obtain ⟨a7, c7, rfl⟩ := ho6.form'; have hl6 := ((hl5.alloc (.cells #[.bool nt, .string nt', .slice none 0 0] 84)).alloc (.cells #[.string nf, .slice none 0 0, .slice (some ⟨w5.heap.size, 0, none⟩) 1 1] 87)).ch hc6 (HNO.out _ HBB.out.l); have hg6 := ((hg5.alloc (.cells #[.bool nt, .string nt', .slice none 0 0] 84)).alloc (.cells #[.string nf, .slice none 0 0, .slice (some ⟨w5.heap.size, 0, none⟩) 1 1] 87)).ch hc6 (HNO.out _ HBB.out.g); have x6 := hl6.cell 0; have y6 := hl6.frozen 0; have t0 := hg6.cell 0; have t1 := hg6.cell 1)
    refine hK.out _ _ ?_ (fun hHeld => ?_)
    focus ((try dsimp only); go_keep)
    clear hK K
    (try simp only [Act.put, List.setIfInBounds_toArray, List.set_cons_zero, List.set_cons_succ])
    refine wpAnyH_ready (rs := [13]) (by kernel_rfl) (by simp) ?_
    refine AllReadyH.cons (o := ⟨none, _, _, _, _, _⟩) rfl (fun K hK => ?_) ?_
    go_simp
    refine hK.out _ _ ?_ (fun hHeld => ?_)
    focus ((try dsimp only); go_keep)
    clear hK K
    (try simp only [Act.put, List.setIfInBounds_toArray, List.set_cons_zero, List.set_cons_succ])
    refine wpAnyH_done (by kernel_rfl) ?_ _
    rotate_left
    exact AllReadyH.nil
    exact AllReadyH.nil
    exact AllReadyH.nil
    refine AllReadyH.cons (o := ⟨some 41, _, _, _, _, _⟩) rfl (fun K hK => ?_) ?_
    go_simp
    refine hK.out _ _ ?_ (fun hHeld => ?_)
    focus ((try dsimp only); go_keep)
    clear hK K
    (try simp only [Act.put, List.setIfInBounds_toArray, List.set_cons_zero, List.set_cons_succ])
    refine wpAnyH_ready (rs := [0]) (by kernel_rfl) (by simp) ?_
    refine AllReadyH.cons (o := ⟨some 30, _, _, _, _, _⟩) rfl (fun K hK => ?_) ?_
    go_simp
    refine hK.out _ _ ?_ (fun hHeld => ?_)
    focus ((try dsimp only); go_keep)
    clear hK K
    (try simp only [Act.put, List.setIfInBounds_toArray, List.set_cons_zero, List.set_cons_succ])
    refine wpAnyH_ready (rs := [12]) (by kernel_rfl) (by simp) ?_
    refine AllReadyH.cons (o := ⟨some 42, _, _, _, _, _⟩) rfl (fun K hK => ?_) ?_
    (refine step_append_sl rfl _ _ _ rfl elR (base := base) (v := v) rfl (hown3.ch0' hcZ) rfl hone (show (css.length + 1) * 64 ≤ 140737488355328 by have := HCL.out; omega) hbZ ?_; intro v6 w6 ho6 hc6 hat6 hn6; clear hn6; obtain ⟨a7, c7, rfl⟩ := ho6.form'; have hl6 := ((hl5.alloc (.cells #[.bool nt, .string nt', .slice none 0 0] 84)).alloc (.cells #[.string nf, .slice none 0 0, .slice (some ⟨w5.heap.size, 0, none⟩) 1 1] 87)).ch hc6 (HNO.out _ HBB.out.l); have hg6 := ((hg5.alloc (.cells #[.bool nt, .string nt', .slice none 0 0] 84)).alloc (.cells #[.string nf, .slice none 0 0, .slice (some ⟨w5.heap.size, 0, none⟩) 1 1] 87)).ch hc6 (HNO.out _ HBB.out.g); have x6 := hl6.cell 0; have y6 := hl6.frozen 0; have t0 := hg6.cell 0; have t1 := hg6.cell 1)
    refine hK.out _ _ ?_ (fun hHeld => ?_)
    focus ((try dsimp only); go_keep)
    clear hK K
    (try simp only [Act.put, List.setIfInBounds_toArray, List.set_cons_zero, List.set_cons_succ])
    refine wpAnyH_ready (rs := [13]) (by kernel_rfl) (by simp) ?_
    refine AllReadyH.cons (o := ⟨none, _, _, _, _, _⟩) rfl (fun K hK => ?_) ?_
    go_simp
    refine hK.out _ _ ?_ (fun hHeld => ?_)
    focus ((try dsimp only); go_keep)
    clear hK K
    (try simp only [Act.put, List.setIfInBounds_toArray, List.set_cons_zero, List.set_cons_succ])
    refine wpAnyH_done (by kernel_rfl) ?_ _
    rotate_left
    exact AllReadyH.nil
    exact AllReadyH.nil
    exact AllReadyH.nil
    exact AllReadyH.nil
    exact AllReadyH.nil
    exact AllReadyH.nil
    exact AllReadyH.nil
    all_goals
      go_end0
      have hl7 : (css ++ [[Value.string nf, Value.slice none 0 0, Value.slice (some ⟨w5.heap.size, 0, none⟩) 1 1]]).length = es.length + 1 := by rw [List.length_append, hcl]; simp
      rw [hl7] at ho6 hat6
      exact ⟨rfl, addS_fin (e := ⟨nf, nt', nt⟩) HBB.out HSS.out hc0 hc3 hm3 hc4 hc5 HNE.out hcl hli hown HSZ.out ho6 hc6 hat6⟩
end

section
open Go.RowKit

theorem elIn : Elem Tryz.prog 28 3 1 8 := Elem.mk' Tryz.underlying28 (by kernel_rfl) (by decide) (by decide)
theorem elBo : Elem Tryz.prog 64 4 1 1 := Elem.mk' Tryz.underlying64 (by kernel_rfl) (by decide) (by decide)
theorem flat_one {α : Type} (f : α → Value) : ∀ xs : List α, (xs.map fun x => [f x]).flatten = xs.map f
  | [] => rfl
  | x :: xs => by simp [flat_one f xs]
theorem makeInts (w : World) (n : Nat) (hn : n ≤ 1000000) : ∃ w', (Instr.makeSlice 28 (.int .i64 (n : Int)) (.int .i64 (n : Int))).run Tryz.prog w = .ok (.slice (some ⟨w.heap.size, 0, none⟩) n n) w' ∧
    Own w' w.heap.size 3 1 (.slice (some ⟨w.heap.size, 0, none⟩) n n) ((List.replicate n (0 : Int)).map encI) ∧ Ch [] w w' ∧ w.heap.size < w'.heap.size := by
  obtain ⟨i, z, h1, h2, h3, h4, _⟩ := elIn.i
  have hz : (Tryz.prog.info? 3).bind (·.zero) = some (.int .i64 0) := by kernel_rfl
  rw [h1] at hz
  simp only [Option.bind_some, h2, Option.some.injEq] at hz
  subst hz
  obtain ⟨w', h5, h6, h7⟩ := run_make_full (P := Tryz.prog) w w.heap.size 28 3 i _ 1 elIn.t h1 h2 h3 .i64 .i64 n (by rw [h4]; omega) (by unfold maxLen; omega) (Nat.le_refl _)
  have hO : Own w' w.heap.size 3 1 (.slice (some ⟨w.heap.size, 0, none⟩) n n) ((List.replicate n (0 : Int)).map encI) := by
    refine ⟨?_, ?_⟩
    · have e1 : (madeCells (Value.int .i64 0).cells (n * 1)).toList = List.replicate n (Value.int .i64 0) := by
        have : (Value.int .i64 0).cells = #[Value.int .i64 0] := rfl
        rw [this, Nat.mul_one, toList_madeCells_one]
      rw [e1] at h6
      have e2 : ((List.replicate n (0 : Int)).map encI).flatten = List.replicate n (Value.int .i64 0) := by
        have := flat_one (fun x : Int => Value.int .i64 x) (List.replicate n 0)
        rw [show ((List.replicate n (0 : Int)).map encI) = ((List.replicate n (0 : Int)).map fun x => [Value.int .i64 x]) from rfl, this]; simp
      rw [e2]
      simpa using h6
    · intro cs hcs
      obtain ⟨u, _, rfl⟩ := List.mem_map.1 hcs
      exact ⟨rfl, by simp [encI, Value.oneCell']⟩
  exact ⟨w', h5, hO, by simpa using Ch.of_grown h7, by have := (hO.lt (b := w.heap.size) rfl).2; omega⟩
theorem Own.setI {w : World} {base : Nat} {e : TypeId} {g c n : Nat} {xs : List Int} (h : Own w base e 1 (.slice (some ⟨g, 0, none⟩) n c) (xs.map encI)) (hn : xs.length = n) (i : Nat) (x : Int) :
    Own (w.setCell ⟨g, i, none⟩ (.int .i64 x)) base e 1 (.slice (some ⟨g, 0, none⟩) n c) ((xs.set i x).map encI) := by
  subst hn
  have h0 := h.1
  rw [List.length_map] at h0
  have h1 := (h0.stored i (.int .i64 x)).1
  have e1 : ((xs.map encI).flatten).set i (.int .i64 x) = ((xs.set i x).map encI).flatten := by
    have f1 := flat_one (fun x : Int => Value.int .i64 x) xs
    have f2 := flat_one (fun x : Int => Value.int .i64 x) (xs.set i x)
    show ((xs.map fun x => [Value.int .i64 x]).flatten).set i _ = ((xs.set i x).map fun x => [Value.int .i64 x]).flatten
    rw [f1, f2, List.map_set]
  rw [e1] at h1
  refine ⟨by simpa using h1, fun cs hcs => ?_⟩
  obtain ⟨u, _, rfl⟩ := List.mem_map.1 hcs
  exact ⟨rfl, by simp [encI, Value.oneCell']⟩
/-- a cell of such a row, which may be written -/
theorem Own.atI {w : World} {base : Nat} {e : TypeId} {g c n : Nat} {xs : List Int} (h : Own w base e 1 (.slice (some ⟨g, 0, none⟩) n c) (xs.map encI)) (hn : xs.length = n) {i : Nat} (hi : i < xs.length) :
    w.cell? ⟨g, i, none⟩ = some (.int .i64 xs[i]) ∧ w.frozen? ⟨g, i, none⟩ = false ∧ base ≤ g ∧ g < w.heap.size := by
  subst hn
  obtain ⟨b, o, e1, _, h2⟩ := SlI.at_ (show SlI _ w _ xs from h.sl) hi
  injection e1 with e1
  injection e1 with e2 e3
  subst e2 e3
  rw [Nat.zero_add] at h2
  have h0 := h.1
  rw [List.length_map] at h0
  exact ⟨h2, h0.frozenAt i, (h.lt (b := g) rfl).1, (h.lt (b := g) rfl).2⟩
/-- a row of numbers that is filled from the front -/
def fillI (st : List Int) (k : Nat) : List Int := st.take k ++ List.replicate (st.length - k) 0
theorem fillI_len {st : List Int} {k : Nat} (h : k ≤ st.length) : (fillI st k).length = st.length := by simp [fillI]; omega
theorem fillI_set {st : List Int} {k : Nat} (h : k < st.length) : (fillI st k).set k st[k] = fillI st (k + 1) := by
  unfold fillI
  rw [List.set_append_right _ _ (by simp; omega), take_snoc st k h]
  have e : k - (st.take k).length = 0 := by simp; omega
  have e2 : st.length - k = (st.length - (k + 1)) + 1 := by omega
  rw [e, e2, List.replicate_succ, List.set_cons_zero, List.append_assoc]
  rfl
theorem fillI_full (st : List Int) : fillI st st.length = st := by simp [fillI]
theorem fillI_none (st : List Int) : fillI st 0 = List.replicate st.length 0 := by simp [fillI]
end

section
open Go.RowKit

section
def eds1 (A : List Tm) (h : Int) (nt : Bool) (l : List Int) (o : List Ed) : List Ed := (l.map fun n => (⟨nmA A h, nmA A n, nt⟩ : Ed)).foldl addE o
theorem eds1_snoc (A : List Tm) (h : Int) (nt : Bool) (l : List Int) (o : List Ed) (j : Nat) (hj : j < l.length) : eds1 A h nt (l.take (j + 1)) o = addE (eds1 A h nt (l.take j) o) ⟨nmA A h, nmA A l[j], nt⟩ := by
  unfold eds1
  rw [take_snoc l j hj, List.map_append, List.foldl_append]; rfl
theorem eds1_len (A : List Tm) (h : Int) (nt : Bool) (l : List Int) (o : List Ed) : (eds1 A h nt l o).length ≤ o.length + l.length := by
  have := len_addE (l.map fun n => (⟨nmA A h, nmA A n, nt⟩ : Ed)) o
  unfold eds1
  simpa using this
theorem gEds_snoc (A : List Tm) (rs : List Gr) (k : Nat) (hk : k < rs.length) : gEds A (rs.take (k + 1)) = eds1 A rs[k].h true rs[k].ns (eds1 A rs[k].h false rs[k].ps (gEds A (rs.take k))) := by
  unfold gEds eds1
  rw [take_snoc rs k hk, List.flatMap_append, List.foldl_append]
  simp [edsX, List.foldl_append]
/-- the bounds of a ground description that the walks take -/
structure GdFit (A : List Tm) (rs : List Gr) : Prop where
  a : A.length ≤ 1000
  r : rs.length ≤ 1000
  x : ∀ x ∈ rs, x.ps.length ≤ 20 ∧ x.ns.length ≤ 20
  nm : ∀ t ∈ A, t.name.size ≤ maxLen
theorem gEds_fit {A : List Tm} {rs : List Gr} (h : GdFit A rs) (k : Nat) : (gEds A (rs.take k)).length ≤ 40000 := by
  have h1 := gEds_len A 40 (rs.take k) (fun x hx => by have := h.x x (List.mem_of_mem_take hx); omega)
  have h2 : (rs.take k).length ≤ 1000 := by have := h.r; simp; omega
  have h3 : (rs.take k).length * 40 ≤ 1000 * 40 := Nat.mul_le_mul_right _ h2
  omega
/-- what strata.Levels asks of the rules that stand for the edges -/
theorem gEds_ends {A : List Tm} {rs : List Gr} (ho : ∀ x ∈ rs, grOk A.length x = true) : ∀ e ∈ gEds A rs, (∃ t ∈ A, e.f = t.name) ∧ ∃ t ∈ A, e.t = t.name := fun e he => by
  obtain ⟨x, hx, hm⟩ := mem_gEds.1 he
  have key : ∀ i, numIn A.length i = true → ∃ t ∈ A, nmA A i = t.name := fun i hi => by
    obtain ⟨k, hk, _, e⟩ := nmA_of hi
    exact ⟨A[k], List.getElem_mem hk, e⟩
  simp only [edsX, List.mem_append, List.mem_map] at hm
  rcases hm with ⟨n, hn, rfl⟩ | ⟨n, hn, rfl⟩
  · exact ⟨key _ (grOk_h (ho x hx)), key _ (grOk_p (ho x hx) n hn)⟩
  · exact ⟨key _ (grOk_h (ho x hx)), key _ (grOk_n (ho x hx) n hn)⟩
theorem gEds_rules {A : List Tm} {rs : List Gr} (hf : GdFit A rs) (ho : ∀ x ∈ rs, grOk A.length x = true) (hd : ∀ t ∈ A, t.name ≠ dis) :
    (relsOf ((gEds A rs).map ruE)).length ≤ 101000 ∧ (edgesOf ((gEds A rs).map ruE)).length ≤ 100000 ∧ NmOk ((gEds A rs).map ruE) ∧ (∀ e, e ∈ edgesOf ((gEds A rs).map ruE) ↔ e ∈ gEds A rs) ∧ Ends (edgesOf ((gEds A rs).map ruE)) (relsOf ((gEds A rs).map ruE)) := by
  have he := gEds_ends ho
  have hnd : ∀ e ∈ gEds A rs, e.f ≠ dis ∧ e.t ≠ dis := fun e h => by
    obtain ⟨⟨t, ht, e1⟩, ⟨u, hu, e2⟩⟩ := he e h
    rw [e1, e2]; exact ⟨hd t ht, hd u hu⟩
  have h1 := edgesOf_ruE hnd
  have h2 := relsOf_ruE hnd
  refine ⟨?_, ?_, fun r hr => ?_, h1, ends_of _⟩
  · have := nodup_len (asc_nodup sLt_sto (asc_relsOf ((gEds A rs).map ruE))) (m := A.map Tm.name) (fun s hs => by
      obtain ⟨e, h3, h4⟩ := (h2 s).1 hs
      obtain ⟨⟨t, ht, e1⟩, ⟨u, hu, e2⟩⟩ := he e h3
      rcases h4 with rfl | rfl
      · exact List.mem_map.2 ⟨t, ht, e1.symm⟩
      · exact List.mem_map.2 ⟨u, hu, e2.symm⟩)
    have h3 := hf.a
    rw [List.length_map] at this
    omega
  · have := nodup_len (asc_nodup edLess_sto (asc_edgesOf ((gEds A rs).map ruE))) (m := gEds A rs) (fun e h => (h1 e).1 h)
    have h3 := gEds_fit hf rs.length
    rw [List.take_length] at h3
    omega
  · obtain ⟨e, h3, rfl⟩ := List.mem_map.1 hr
    obtain ⟨⟨t, ht, e1⟩, ⟨u, hu, e2⟩⟩ := he e h3
    refine ⟨by show e.f.size ≤ _; rw [e1]; exact hf.nm t ht, fun x hx => ?_⟩
    simp only [ruE, List.mem_singleton] at hx
    subst hx
    show e.t.size ≤ _
    rw [e2]; exact hf.nm u hu
end

theorem numIn_ex {N : Nat} {i : Int} (h : numIn N i = true) : ∃ k : Nat, k < N ∧ i = (k : Int) := numIn_nat h
theorem addEI_ (A : List Tm) (hd k : Int) (hh : numIn A.length hd = true) (hk : numIn A.length k = true) (nt : Bool) (hn : A.length ≤ 1000000) (p : Nat → Prop) (a : Option Addr) (n c : Nat) (vr v : Value) (kv : List (Ed × Value)) (es : List Ed) (w : World) (base Bg Bc Bm Bl : Nat)
    (h : SlT p w (.slice a n c) A) (hB : AddB base Bg Bc Bm Bl) (hS : AddS w base Bg Bc Bm Bl (.slice a n c) vr kv v es) (hes : es.length ≤ 1000000) (hbs : base ≤ w.heap.size) (hr : vr.oneCell' = true) (hpm : ¬ p Bm) :
    Calls Tryz.prog 50 #[.int .i64 hd, .int .i64 k, .bool nt, .pointer (some ⟨Bg, 0, none⟩), .pointer (some ⟨Bc, 0, none⟩), .pointer (some ⟨Bl, 0, none⟩)] w
      (AddPost base Bg Bc Bm Bl (.slice a n c) vr v (addE es ⟨nmA A hd, nmA A k, nt⟩) w) := by
  obtain ⟨i, hi, rfl⟩ := numIn_nat hh
  obtain ⟨j, hj, rfl⟩ := numIn_nat hk
  exact addE_ A i j hi hj nt hn p a n c vr v kv es w base Bg Bc Bm Bl h hB hS hes hbs hr hpm

/-- what strataOf hands back -/
def StRes (base : Nat) (w : World) (v : Value) (n : Int) : Option (List Int) → Prop
  | none => v = .slice none 0 0 ∧ n = 10
  | some st => SlI (fun b => base ≤ b) w v st ∧ n = 0

set_option maxRecDepth 100000 in
set_option maxHeartbeats 8000000 in
theorem strataG_ (A : List Tm) (rs : List Gr) (p : Nat → Prop) (va vr : Value) (w : World) (hA : SlT p w va A) (hR : SlGr p w vr rs) (hf : GdFit A rs) (ho : ∀ x ∈ rs, grOk A.length x = true) (hd : ∀ t ∈ A, t.name ≠ dis) :
    Calls Tryz.prog 31 #[.agg #[va, vr]] w fun e w' => ∃ v n, e = .returned (.tuple #[v, .int .i64 n]) ∧ StRes w.heap.size w' v n (stA A rs) ∧ Ch [] w w' := by
  have hA0 : SlT (fun b => b < w.heap.size) w va A := hA.weak (fun b hb _ => hb)
  have hR0 : SlGr (fun b => b < w.heap.size) w vr rs := hR.weak (fun b hb _ => hb)
  clear hA hR
  have HGR := Lib.hid (gEds_rules hf ho hd)
  have HFL := Lib.hid (gEds_fit hf)
  have HX := Lib.hid hf.x
  have hal := hf.a
  have hrl := hf.r
  have HOK := Lib.hid ho
  clear hf ho hd
  obtain ⟨aA, cA, rfl, _, hmA⟩ := hA0.form
  obtain ⟨aR, cR, rfl, hlc, hm⟩ := hR0.form
  unfold maxLen at hm hmA
  have hmk := @run_makeMap Tryz.prog
  obtain ⟨wB, hwB⟩ : ∃ wB, (((w.alloc (.cells #[.slice aA A.length cA, .slice aR rs.length cR] 25)).alloc (.map #[] 0)).alloc (.cells #[.map (some (w.heap.size + 1))] 78)).alloc (.cells #[.slice none 0 0] 79) = wB := ⟨_, rfl⟩
  have hSB : AddS wB (w.heap.size + 4) w.heap.size (w.heap.size + 1 + 1) (w.heap.size + 1) (w.heap.size + 1 + 1 + 1) (.slice aA A.length cA) (.slice aR rs.length cR) [] (.slice none 0 0) [] := by
    rw [← hwB]
    refine ⟨(((Blk.new w _ _).alloc _).alloc _).alloc _, (Blk.new' _ _ _ _ (by simp)).alloc _, ?_, Blk.new' _ _ _ _ (by simp), by simp, rfl, OwnG.nil _ _⟩
    have := MapAt.new (w.alloc (.cells #[.slice aA A.length cA, .slice aR rs.length cR] 25)) encE
    rw [show (w.alloc (.cells #[.slice aA A.length cA, .slice aR rs.length cR] 25)).heap.size = w.heap.size + 1 by simp] at this
    exact (this.alloc _).alloc _
  have hcB : Ch [] w wB := by rw [← hwB]; exact ((((Ch.refl _ _).alloc _).alloc _).alloc _).alloc _
  have hszB : w.heap.size + 4 ≤ wB.heap.size := by rw [← hwB]; simp
  have HAB : Hid (AddB (w.heap.size + 4) w.heap.size (w.heap.size + 1 + 1) (w.heap.size + 1) (w.heap.size + 1 + 1 + 1)) := by constructor <;> omega
  have b1 := hSB.g.cell 1
  go_enter Tryz.func31, Tryz.ntmps31
  go_wp2
  clear b1
  go_loopw [8, 10, 12, 22] (fun _ _ _ i wr => ∃ (k : Nat) (kv : List (Ed × Value)) (v : Value), k ≤ rs.length ∧ i = .int .i64 k ∧ Ch [] w wr ∧ w.heap.size + 4 ≤ wr.heap.size ∧ AddS wr (w.heap.size + 4) w.heap.size (w.heap.size + 1 + 1) (w.heap.size + 1) (w.heap.size + 1 + 1 + 1) (.slice aA A.length cA) (.slice aR rs.length cR) kv v (gEds A (rs.take k))) (fun _ _ _ i _ => rs.length - (intOf i).toNat)
  case atStart => exact ⟨0, [], _, Nat.zero_le _, rfl, hcB, hszB, hSB⟩
  case round =>
    obtain ⟨k, kv0, v0, hk, rfl, hB, hsz, hS⟩ := hrel
    by_cases hlt : k < rs.length
    · have j1 : decide (k < rs.length) = true := decide_eq_true hlt
      obtain ⟨bk, o, a1, c1, a2, c2, rfl, hp, d0, d1, d2, hP, hG⟩ := hR0.at_ hlt
      have d0 := cell_ch (S := []) d0 hB (by simp)
      have d1 := cell_ch (S := []) d1 hB (by simp)
      have d2 := cell_ch (S := []) d2 hB (by simp)
      have HSN := Lib.hid (gEds_snoc A rs k hlt)
      have hxl := HX.out _ (List.getElem_mem hlt)
      have HXO := Lib.hid (show numIn A.length rs[k].h = true ∧ (∀ n ∈ rs[k].ps, numIn A.length n = true) ∧ ∀ n ∈ rs[k].ns, numIn A.length n = true from ⟨grOk_h (HOK.out _ (List.getElem_mem hlt)), grOk_p (HOK.out _ (List.getElem_mem hlt)), grOk_n (HOK.out _ (List.getElem_mem hlt))⟩)
      have hel := HFL.out k
      generalize hes0 : gEds A (rs.take k) = es0 at *
      clear hes0
      generalize hx : rs[k] = x at *
      clear hx
      have hel2 := eds1_len A x.h false x.ps es0
      have HP0 := Lib.hid hP
      have HG0 := Lib.hid hG
      obtain ⟨aP, cP, eP, _, hmP⟩ := hP.form
      injection eP with eP1 _ eP2
      subst eP1 eP2
      obtain ⟨aG, cG, eG, _, hmG⟩ := hG.form
      injection eG with eG1 _ eG2
      subst eG1 eG2
      unfold maxLen at hmP hmG
      have hown0 : ∀ b, v0.ownBlock = some b → b < wr.heap.size := fun b hb => by obtain ⟨css, h1, _⟩ := hS.o; exact (h1.lt hb).2
      have HV0 : Hid (v0.ownBlock ≠ some wr.heap.size) := fun h => by have := hown0 _ h; omega
      have hcN : Ch [] wr (wr.alloc (.cells #[.int .i64 x.h, .slice a1 x.ps.length c1, .slice a2 x.ns.length c2] 44)) := (Ch.refl _ _).alloc _
      have hbn := Blk.new wr 44 #[.int .i64 x.h, .slice a1 x.ps.length c1, .slice a2 x.ns.length c2]
      have HS0 := Lib.hid (hS.ch hcN)
      have hBN := hB.trans hcN
      have h8N : wr.heap.size < (wr.alloc (.cells #[.int .i64 x.h, .slice a1 x.ps.length c1, .slice a2 x.ns.length c2] 44)).heap.size := hbn.lt
      have m1 := hbn.cell 1
      have g1 := hS.g.cell 1
      clear hown0 hP hG hS
      go_wp2
      clear m1 g1 d0 d1 d2 hcN
      generalize (wr.alloc (.cells #[.int .i64 x.h, .slice a1 x.ps.length c1, .slice a2 x.ns.length c2] 44)) = wN at *
      obtain ⟨B8, hB8⟩ : ∃ B8, B8 = wr.heap.size := ⟨_, rfl⟩
      rw [← hB8] at hbn HV0 h8N hsz
      rw [← hB8]
      clear hB8
      go_loopw [10, 29] (fun _ i wq => ∃ (j : Nat) (kv : List (Ed × Value)) (v : Value), j ≤ x.ps.length ∧ i = .int .i64 j ∧ Ch [] w wq ∧ B8 < wq.heap.size ∧ AddS wq (w.heap.size + 4) w.heap.size (w.heap.size + 1 + 1) (w.heap.size + 1) (w.heap.size + 1 + 1 + 1) (.slice aA A.length cA) (.slice (some ⟨bk, o, none⟩) rs.length cR) kv v (eds1 A x.h false (x.ps.take j) es0) ∧ Blk wq B8 44 #[.int .i64 x.h, .slice a1 x.ps.length c1, .slice a2 x.ns.length c2] ∧ Hid (v.ownBlock ≠ some B8)) (fun _ i _ => x.ps.length - (intOf i).toNat)
      case atStart => exact ⟨0, kv0, v0, Nat.zero_le _, rfl, hBN, h8N, HS0.out, hbn, HV0⟩
      case round =>
        obtain ⟨j, kv, v, hj, rfl, hq, hszq, hSq, hbq, HVq⟩ := hrel
        have HSQ := Lib.hid hSq
        have h0q := hbq.cell 0
        clear hSq
        by_cases hlj : j < x.ps.length
        · have j2 : decide (j < x.ps.length) = true := decide_eq_true hlj
          obtain ⟨bp, op, rfl, _, cj⟩ := (HP0.out.ch0 hq).at_ hlj
          have HES := Lib.hid (eds1_snoc A x.h false x.ps es0 j hlj)
          have hes := eds1_len A x.h false (x.ps.take j) es0
          have hni := HXO.out.2.1 _ (List.getElem_mem hlj)
          generalize x.ps[j] = n at *
          have hcall := addEI_ A x.h n HXO.out.1 hni false (by omega) _ aA A.length cA (.slice (some ⟨bk, o, none⟩) rs.length cR) v kv _ _ _ _ _ _ _ (hA0.ch0 hq) HAB.out HSQ.out (by have : (x.ps.take j).length ≤ j := List.length_take_le _ _; omega) (by omega) rfl (by omega)
          clear hes hni
          go_wp2_with fail
          ((with_reducible refine hcall.mono ?_); intro e w4 hpost)
          unfold AddPost at hpost
          obtain ⟨rfl, kv', v', hS', hcS, hat⟩ := hpost
          go_wp2
          have hS4 : ∀ y ∈ (w.heap.size + 1) :: (w.heap.size + 1 + 1 + 1) :: v.ownBlock.toList, w.heap.size ≤ y ∧ y ≠ B8 := fun y hy => by
            rcases List.mem_cons.1 hy with rfl | hy
            · omega
            · rcases List.mem_cons.1 hy with rfl | hy
              · omega
              · cases hvo : v.ownBlock with
                | none => rw [hvo] at hy; cases hy
                | some g =>
                  rw [hvo] at hy
                  simp at hy
                  subst hy
                  refine ⟨?_, fun h => HVq.out (by rw [hvo, h])⟩
                  obtain ⟨css, h1, _⟩ := HSQ.out.o
                  have := (h1.lt hvo).1
                  omega
          have HV' : Hid (v'.ownBlock ≠ some B8) := fun h => by
            rcases hat with h1 | ⟨g, h1, h2⟩
            · exact HVq.out (h1 ▸ h)
            · rw [h1] at h; injection h with h; omega
          have hb4 := hbq.ch hcS (fun h => (hS4 _ h).2 rfl)
          have hq4 : Ch [] w w4 := hq.step hcS (fun y hy => .inr (hS4 y hy).1)
          have hs4 := hcS.size
          clear hat hcS hS4 hcall h0q
          go_roundw
          case rel => exact ⟨j + 1, kv', v', by omega, by go_num, hq4, by omega, by rw [HES.out]; exact hS', hb4, HV'⟩
          case measure => simp [intOf]; omega
        · have hjl : j = x.ps.length := by omega
          have HSE := Lib.hid (show AddS wr (w.heap.size + 4) w.heap.size (w.heap.size + 1 + 1) (w.heap.size + 1) (w.heap.size + 1 + 1 + 1) (.slice aA A.length cA) (.slice (some ⟨bk, o, none⟩) rs.length cR) kv v (eds1 A x.h false x.ps es0) by have := HSQ.out; rwa [hjl, List.take_length] at this)
          have j2 : decide (j < x.ps.length) = false := decide_eq_false hlj
          have h1q := hbq.cell 1
          have h2q := hbq.cell 2
          clear HSQ hjl h0q
          go_wp2
          clear h1q h2q
          go_loopw [12, 42] (fun _ i wq => ∃ (j : Nat) (kv : List (Ed × Value)) (v : Value), j ≤ x.ns.length ∧ i = .int .i64 j ∧ Ch [] w wq ∧ B8 < wq.heap.size ∧ AddS wq (w.heap.size + 4) w.heap.size (w.heap.size + 1 + 1) (w.heap.size + 1) (w.heap.size + 1 + 1 + 1) (.slice aA A.length cA) (.slice (some ⟨bk, o, none⟩) rs.length cR) kv v (eds1 A x.h true (x.ns.take j) (eds1 A x.h false x.ps es0)) ∧ Blk wq B8 44 #[.int .i64 x.h, .slice a1 x.ps.length c1, .slice a2 x.ns.length c2] ∧ Hid (v.ownBlock ≠ some B8)) (fun _ i _ => x.ns.length - (intOf i).toNat)
          case atStart => exact ⟨0, kv, v, Nat.zero_le _, rfl, hq, hszq, HSE.out, hbq, HVq⟩
          case round =>
            obtain ⟨j, kv, v, hj, rfl, hq, hszq, hSq, hbq, HVq⟩ := hrel
            have HSQ := Lib.hid hSq
            have h0q := hbq.cell 0
            clear hSq
            by_cases hlj : j < x.ns.length
            · have j2 : decide (j < x.ns.length) = true := decide_eq_true hlj
              obtain ⟨bp, op, rfl, _, cj⟩ := (HG0.out.ch0 hq).at_ hlj
              have HES := Lib.hid (eds1_snoc A x.h true x.ns (eds1 A x.h false x.ps es0) j hlj)
              have hes := eds1_len A x.h true (x.ns.take j) (eds1 A x.h false x.ps es0)
              have hni := HXO.out.2.2 _ (List.getElem_mem hlj)
              generalize x.ns[j] = n at *
              have hcall := addEI_ A x.h n HXO.out.1 hni true (by omega) _ aA A.length cA (.slice (some ⟨bk, o, none⟩) rs.length cR) v kv _ _ _ _ _ _ _ (hA0.ch0 hq) HAB.out HSQ.out (by have : (x.ns.take j).length ≤ j := List.length_take_le _ _; omega) (by omega) rfl (by omega)
              clear hes hni
              go_wp2_with fail
              ((with_reducible refine hcall.mono ?_); intro e w4 hpost)
              unfold AddPost at hpost
              obtain ⟨rfl, kv', v', hS', hcS, hat⟩ := hpost
              go_wp2
              have hS4 : ∀ y ∈ (w.heap.size + 1) :: (w.heap.size + 1 + 1 + 1) :: v.ownBlock.toList, w.heap.size ≤ y ∧ y ≠ B8 := fun y hy => by
                rcases List.mem_cons.1 hy with rfl | hy
                · omega
                · rcases List.mem_cons.1 hy with rfl | hy
                  · omega
                  · cases hvo : v.ownBlock with
                    | none => rw [hvo] at hy; cases hy
                    | some g =>
                      rw [hvo] at hy
                      simp at hy
                      subst hy
                      refine ⟨?_, fun h => HVq.out (by rw [hvo, h])⟩
                      obtain ⟨css, h1, _⟩ := HSQ.out.o
                      have := (h1.lt hvo).1
                      omega
              have HV' : Hid (v'.ownBlock ≠ some B8) := fun h => by
                rcases hat with h1 | ⟨g, h1, h2⟩
                · exact HVq.out (h1 ▸ h)
                · rw [h1] at h; injection h with h; omega
              have hb4 := hbq.ch hcS (fun h => (hS4 _ h).2 rfl)
              have hq4 : Ch [] w w4 := hq.step hcS (fun y hy => .inr (hS4 y hy).1)
              have hs4 := hcS.size
              clear hat hcS hS4 hcall h0q
              go_roundw
              case rel => exact ⟨j + 1, kv', v', by omega, by go_num, hq4, by omega, by rw [HES.out]; exact hS', hb4, HV'⟩
              case measure => simp [intOf]; omega
            · have hjl : j = x.ns.length := by omega
              have HSE := Lib.hid (show AddS wr (w.heap.size + 4) w.heap.size (w.heap.size + 1 + 1) (w.heap.size + 1) (w.heap.size + 1 + 1 + 1) (.slice aA A.length cA) (.slice (some ⟨bk, o, none⟩) rs.length cR) kv v (eds1 A x.h true x.ns (eds1 A x.h false x.ps es0)) by have := HSQ.out; rwa [hjl, List.take_length] at this)
              have j2 : decide (j < x.ns.length) = false := decide_eq_false hlj
              have h1q := hbq.cell 1
              have h2q := hbq.cell 2
              clear HSQ hjl h0q
              go_wp2
              clear h1q h2q
              go_roundw
              case rel => exact ⟨k + 1, kv, v, by omega, by go_num, hq, by omega, by rw [HSN.out]; exact HSE.out⟩
              case measure => simp [intOf]; omega
    · have hkl : k = rs.length := by omega
      have j1 : decide (k < rs.length) = false := decide_eq_false hlt
      have hS1 : AddS wr (w.heap.size + 4) w.heap.size (w.heap.size + 1 + 1) (w.heap.size + 1) (w.heap.size + 1 + 1 + 1) (.slice aA A.length cA) (.slice aR rs.length cR) kv0 v0 (gEds A rs) := by
        rwa [hkl, List.take_length] at hS
      clear hS hkl
      have hsl : SlR (fun b => w.heap.size + 4 ≤ b) wr v0 ((gEds A rs).map ruE) := OwnG.slg imp_ru hS1.o
      have hlev := strataLevels_ _ v0 ((gEds A rs).map ruE) wr hsl HGR.out.1 HGR.out.2.1 HGR.out.2.2.1
      have HST := Lib.hid (fun o (ho : LvAns (edgesOf ((gEds A rs).map ruE)) (relsOf ((gEds A rs).map ruE)) o) => stA_of (A := A) (rs := rs) HGR.out.2.2.2.1 HGR.out.2.2.2.2 ho)
      have l0 := hS1.l.cell 0
      have hg1 := hS1.g
      generalize hl : (gEds A rs).map ruE = L at *
      clear hl HGR HFL hsl
      go_wp2_with fail
      ((with_reducible refine hlev.mono ?_); intro e w4 hpost)
      obtain ⟨v4, n4, o4, rfl, hans, hres, hc4⟩ := hpost
      have HA4 := Lib.hid (HST.out o4 hans)
      clear HST hans hlev l0 hS1
      have hq4 := hB.trans hc4
      have hg4 := hg1.ch hc4 (by simp)
      have g0 := hg4.cell 0
      rcases HA4.out with ⟨rfl, hst⟩ | ⟨lv, rfl, hst⟩
      · obtain ⟨rfl, rfl⟩ := hres
        have HSN := Lib.hid hst
        clear hst HA4
        go_wp2
        go_ret2
        exact ⟨_, _, rfl, by rw [HSN.out]; exact ⟨rfl, rfl⟩, hq4⟩
      · obtain ⟨hlv, rfl⟩ := hres
        have HSN := Lib.hid hst
        clear hst HA4
        obtain ⟨w5, hmk, ho5, hc5, hs5⟩ := makeInts w4 A.length (by omega)
        obtain ⟨st, hstd⟩ : ∃ st, st = A.map fun t => max (ofL lv t.name) 0 := ⟨_, rfl⟩
        have HSL : Hid (st.length = A.length) := by rw [hstd]; unfold Hid; simp
        have HSG : Hid (∀ k (hk : k < A.length), st[k]'(by rw [HSL.out]; exact hk) = max (ofL lv A[k].name) 0) := fun k hk => by simp [hstd]
        rw [← hstd] at HSN
        clear hstd
        have hlv5 := (hlv.weak (q := fun b => b < w4.heap.size) (fun b hb _ => hb)).ch0 hc5
        have HLV := Lib.hid hlv5
        have hg5 := hg4.ch hc5 (by simp)
        have HG5 := Lib.hid hg5
        obtain ⟨aL, cL, rfl, _, _⟩ := hlv5.form
        have hq5 := hq4.trans hc5
        have ho5' : Own w5 w4.heap.size 3 1 (.slice (some ⟨w4.heap.size, 0, none⟩) A.length A.length) ((fillI st 0).map encI) := by rw [fillI_none, HSL.out]; exact ho5
        have hs4 : w.heap.size + 4 ≤ w4.heap.size := by have := hc4.size; omega
        go_wp2
        obtain ⟨B9, hB9⟩ : ∃ B9, B9 = w4.heap.size := ⟨_, rfl⟩
        rw [← hB9] at ho5' hs4 HLV
        rw [← hB9]
        clear hB9 ho5 hmk hlv hlv5 hg5 g0 hc5 hs5
        go_loopw [16, 67] (fun _ i wr => ∃ k : Nat, k ≤ A.length ∧ i = .int .i64 k ∧ Ch [] w wr ∧ Ch [B9] w5 wr ∧ Own wr B9 3 1 (.slice (some ⟨B9, 0, none⟩) A.length A.length) ((fillI st k).map encI)) (fun _ i _ => A.length - (intOf i).toNat)
        case atStart => exact ⟨0, Nat.zero_le _, rfl, hq5, Ch.refl _ _, ho5'⟩
        case round =>
          obtain ⟨k, hk, rfl, hq, hc, ho⟩ := hrel
          have hgr := HG5.out.ch hc (by simp; omega)
          have g0 := hgr.cell 0
          by_cases hlt : k < A.length
          · have j2 : decide (k < A.length) = true := decide_eq_true hlt
            obtain ⟨bA, oA, rfl, dn⟩ := (hA0.ch0 hq).nameAt hlt
            have hfl : (fillI st k).length = A.length := by rw [fillI_len (by have := HSL.out; omega), HSL.out]
            have HFS := Lib.hid (fillI_set (st := st) (k := k) (by rw [HSL.out]; exact hlt))
            rw [HSG.out k hlt] at HFS
            have hlvr := HLV.out.ch hc (by intro b _ hb; simp; omega)
            have hcall := strataOf _ _ lv (nmA A (k : Int)) wr hlvr
            rw [← nmA_at hlt] at HFS
            generalize nmA A (k : Int) = nm at *
            generalize ofL lv nm = lo at *
            go_wp2_with (go_at_call 53; ((with_reducible refine hcall.mono ?_); rintro e w6 ⟨rfl, hc6⟩; obtain ⟨x6, y6, _, _⟩ := (ho.ch0' hc6).atI hfl (i := k) (by omega)))
            have ho6 := (ho.ch0' hc6).setI hfl k (max lo 0)
            rw [HFS.out] at ho6
            clear x6 y6 dn hcall
            go_roundw
            case rel => exact ⟨k + 1, by omega, by go_num, (hq.trans hc6).set (.inr (by simp; omega)) _, (hc.step hc6 (by simp)).set (.inl (by simp)) _, ho6⟩
            case measure => simp [intOf]; omega
          · have hkl : k = A.length := by omega
            have j2 : decide (k < A.length) = false := decide_eq_false hlt
            have hs : SlI (fun b => w.heap.size ≤ b) wr (.slice (some ⟨B9, 0, none⟩) A.length A.length) st := by
              rw [hkl, ← HSL.out, fillI_full] at ho
              have := (show SlI _ wr _ st from ho.sl).weak (q := fun b => w.heap.size ≤ b) (fun b _ hb => by omega)
              rwa [HSL.out] at this
            clear hkl
            go_wp2
            go_ret2
            exact ⟨_, _, rfl, by rw [HSN.out]; exact ⟨hs, rfl⟩, hq⟩
end
end Go.Proofs.YtojokdicbopknaaGreat
