
/-
  Arguments opened: a slice of edges, of names, of rules reads as a list; and what a law's row asks behind the call.
-/
import Derived.Test.YtaaomocodkpmfaaGreatDoorFacts
import Derived.Test.YtaaomocodkpmfaaGreatDoorRows
import Derived.Carry
import Derived.Below
import Derived.ChangeSame
import Derived.OpenShut
import Derived.ProofKit
import Derived.JoinedCond
import Derived.ReadAgain
import Derived.ChangeMaps5
namespace Go.Proofs.YtaaomocodkpmfaaGreatDoor
open Go.ChangeShapes Go.WideShapes Go.ChangeAt Go.RowKit

theorem own : ownKnob Tryz.prog.godebug = none := by kernel_rfl
theorem laid : laidOutB Tryz.prog = true := by kernel_rfl

section
variable {H : Type} {enc : TypeId × Value → H} {W : World}
/-- a slice, opened: its elements' cells, each of which reads -/
theorem open_sl {t e : TypeId} {k fuel : Nat} {cs : List Value} {x : DataW H × List MemPlace} (ht : Tryz.prog.underlying t = some (.slice e)) (hk : Tryz.prog.cellsOf e = k) (hk0 : 0 < k)
    (hone : ∀ n cs y, DataW.trod enc Tryz.prog W 0 (fun _ => true) true n e cs = some y → cs.length = k ∧ ∀ u ∈ cs, u.oneCell' = true)
    (h : DataW.trod enc Tryz.prog W 0 (fun _ => true) true fuel t cs = some x) :
    ∃ v css, cs = [v] ∧ Sl (fun _ => True) W k v css ∧ ∀ c ∈ css, ∃ n y, n < fuel ∧ DataW.trod enc Tryz.prog W 0 (fun _ => true) true n e c = some y := by
  rcases DataW.trod_slice ht h with ⟨rfl, rfl⟩ | ⟨a, len, cap, elems, rest, n, rfl, rfl, rfl, hb, hl, hm, hlen, hel, _, _⟩
  · exact ⟨_, [], rfl, Sl.nil _ _ _, by simp⟩
  · have each : ∀ i, i < len → ∃ c y, W.cells? 0 (a.add (i * k)) k = some c ∧ DataW.trod enc Tryz.prog W 0 (fun _ => true) true n e c = some y := by
      intro i hi
      have h1 := hel i hi
      rw [List.getElem?_eq_getElem (by omega), hk, Option.bind_eq_some_iff] at h1
      obtain ⟨c, h2, h3⟩ := h1
      exact ⟨c, _, h2, h3⟩
    have hspot : 0 < len → a.spot = none := by
      intro h0
      obtain ⟨c, y, h1, h2⟩ := each 0 h0
      obtain ⟨h3, _⟩ := hone _ _ _ h2
      obtain ⟨_, h5, h6⟩ := World.cells?_some h1
      have h7 := h6 0 hk0
      rw [List.getElem?_eq_getElem (by omega), Nat.zero_mul] at h7
      have h8 := World.cell?_spot h7
      simpa [Addr.add] using h8
    refine ⟨_, (List.range len).map (fun i => (W.cells? 0 (a.add (i * k)) k).getD []), rfl, ⟨some a, cap, by simp, by simpa using hl, hm, fun i c hi => ?_⟩, fun c hc => ?_⟩
    · have hil : i < len := by have := (List.getElem?_eq_some_iff.1 hi).1; simpa using this
      obtain ⟨c', y, h1, h2⟩ := each i hil
      have hcc : c = c' := by simpa [hil, h1] using hi.symm
      subst hcc
      obtain ⟨h3, h4⟩ := hone _ _ _ h2
      obtain ⟨_, h5, h6⟩ := World.cells?_some h1
      have hc0 : ∃ u, c[0]? = some u := ⟨c[0]'(by omega), List.getElem?_eq_getElem _⟩
      obtain ⟨u, hu⟩ := hc0
      have hu' := h6 0 hk0
      rw [hu] at hu'
      have hlt := lt_of_cell hu'
      obtain ⟨ab, ao, asp⟩ := a
      have hsp : asp = none := hspot (by omega)
      subst hsp
      rw [add_off, add_off] at hlt
      refine ⟨⟨h3, h4⟩, ab, ao, rfl, ⟨trivial, hlt⟩, fun j w hj => ?_⟩
      have hjl : j < k := by have := (List.getElem?_eq_some_iff.1 hj).1; omega
      have := h6 j hjl
      rw [add_off, add_off, hj] at this
      rw [← this, Nat.add_assoc]
    · simp only [List.mem_map, List.mem_range] at hc
      obtain ⟨i, hi, rfl⟩ := hc
      obtain ⟨c', y, h1, h2⟩ := each i hi
      exact ⟨n, y, by omega, by rw [h1]; exact h2⟩

set_option maxRecDepth 100000 in
theorem cells_ed : Tryz.prog.cellsOf 114 = 3 := by kernel_rfl
theorem cells_s : Tryz.prog.cellsOf 9 = 1 := by kernel_rfl
theorem cells_b : Tryz.prog.cellsOf 4 = 1 := by kernel_rfl
set_option maxRecDepth 100000 in
theorem trod_E {n : Nat} {cs : List Value} {y : DataW H × List MemPlace} (h : DataW.trod enc Tryz.prog W 0 (fun _ => true) true n 114 cs = some y) : ∃ e : Ed, cs = e.enc ∧ e.f.size ≤ maxLen ∧ e.t.size ≤ maxLen := by
  obtain ⟨xs, m, rfl, _, hl, hxs, hall⟩ := DataW.trod_struct Tryz.underlying114 h
  rw [cells_ed] at hl
  have hl3 : cs.length = 3 := hl
  obtain ⟨c0, c1, c2, rfl⟩ : ∃ c0 c1 c2, cs = [c0, c1, c2] := by
    match cs, hl3 with
    | [c0, c1, c2], _ => exact ⟨_, _, _, rfl⟩
  have a0 : DataW.trod enc Tryz.prog W 0 (fun _ => true) true m 9 [c0] = xs[0]? := by have := hall 0 _ rfl; simpa [cells_s] using this
  have a1 : DataW.trod enc Tryz.prog W 0 (fun _ => true) true m 9 [c1] = xs[1]? := by have := hall 1 _ rfl; simpa [cells_s] using this
  have a2 : DataW.trod enc Tryz.prog W 0 (fun _ => true) true m 4 [c2] = xs[2]? := by have := hall 2 _ rfl; simpa [cells_b] using this
  have hx3 : xs.length = 3 := hxs
  rw [List.getElem?_eq_getElem (by omega)] at a0 a1 a2
  obtain ⟨s, e0, _, z0⟩ := DataW.trod_string Tryz.underlying9 a0
  obtain ⟨u, e1, _, z1⟩ := DataW.trod_string Tryz.underlying9 a1
  obtain ⟨b, e2, _⟩ := DataW.trod_bool Tryz.underlying4 a2
  injection e0 with e0
  injection e1 with e1
  injection e2 with e2
  subst e0 e1 e2
  exact ⟨⟨s, u, b⟩, rfl, z0, z1⟩
theorem list_of {α : Type} {P : α → Prop} (enc : α → List Value) : ∀ {css : List (List Value)}, (∀ c ∈ css, ∃ x, c = enc x ∧ P x) → ∃ xs : List α, css = xs.map enc ∧ ∀ x ∈ xs, P x
  | [], _ => ⟨[], rfl, by simp⟩
  | c :: r, h => by
    obtain ⟨x, rfl, hx⟩ := h c (by simp)
    obtain ⟨xs, rfl, hxs⟩ := list_of enc (css := r) (fun d hd => h d (by simp [hd]))
    exact ⟨x :: xs, rfl, fun y hy => by rcases List.mem_cons.1 hy with rfl | hy; exact hx; exact hxs y hy⟩
set_option maxRecDepth 100000 in
theorem open_E {base : Nat} {v : Value} {d : DataW H} {ps : List MemPlace} (hval : Value.okWide Tryz.prog W .any base 108 v) (h : DataW.Trod enc Tryz.prog W 0 (fun _ => true) true 108 v d ps) :
    ∃ es : List Ed, SlE (fun _ => True) W v es ∧ ∀ e ∈ es, e.f.size ≤ maxLen ∧ e.t.size ≤ maxLen := by
  obtain ⟨a0, len, cap, rfl⟩ := okWide_slice Tryz.underlying108 hval
  obtain ⟨fuel, hf⟩ := h
  obtain ⟨u, css, e, hsl, hall⟩ := open_sl Tryz.underlying108 (k := 3) cells_ed (by decide) (fun n cs y hy => by
    obtain ⟨x, rfl, _⟩ := trod_E hy
    exact ⟨rfl, by simp [Ed.enc, Value.oneCell']⟩) hf
  obtain ⟨xs, rfl, hxs⟩ := list_of Ed.enc (P := fun e => e.f.size ≤ maxLen ∧ e.t.size ≤ maxLen) (fun c hc => by obtain ⟨n, y, _, hy⟩ := hall c hc; exact trod_E hy)
  have e' : [Value.slice a0 len cap] = [u] := by simpa [Value.cells] using e
  injection e' with e'
  subst e'
  exact ⟨xs, hsl, hxs⟩
set_option maxRecDepth 100000 in
theorem open_S {base : Nat} {v : Value} {d : DataW H} {ps : List MemPlace} (hval : Value.okWide Tryz.prog W .any base 51 v) (h : DataW.Trod enc Tryz.prog W 0 (fun _ => true) true 51 v d ps) :
    ∃ es : List ByteArray, SlS (fun _ => True) W v es ∧ ∀ s ∈ es, s.size ≤ maxLen := by
  obtain ⟨a0, len, cap, rfl⟩ := okWide_slice Tryz.underlying51 hval
  obtain ⟨fuel, hf⟩ := h
  have key : ∀ (n : Nat) (cs : List Value) (y : DataW H × List MemPlace), DataW.trod enc Tryz.prog W 0 (fun _ => true) true n 9 cs = some y → ∃ s, cs = encS s ∧ s.size ≤ maxLen := fun n cs y hy => by
    obtain ⟨s, rfl, _, hs⟩ := DataW.trod_string Tryz.underlying9 hy
    exact ⟨s, rfl, hs⟩
  obtain ⟨u, css, e, hsl, hall⟩ := open_sl Tryz.underlying51 (k := 1) cells_s (by decide) (fun n cs y hy => by
    obtain ⟨x, rfl, _⟩ := key _ _ _ hy
    exact ⟨rfl, by simp [encS, Value.oneCell']⟩) hf
  obtain ⟨xs, rfl, hxs⟩ := list_of encS (P := fun s => s.size ≤ maxLen) (fun c hc => by obtain ⟨n, y, _, hy⟩ := hall c hc; exact key _ _ _ hy)
  have e' : [Value.slice a0 len cap] = [u] := by simpa [Value.cells] using e
  injection e' with e'
  subst e'
  exact ⟨xs, hsl, hxs⟩

set_option maxRecDepth 100000 in
/-- an argument reads behind the call as it read before -/
theorem arg_later {t : TypeId} {v : Value} {d : DataW H} {ps : List MemPlace} {W' : World} {sp : Nat → Bool} (hr : Tryz.prog.readableRec t = true) (hrow : t < Tryz.prog.types.size)
    (h : DataW.Trod enc Tryz.prog W 0 (fun _ => true) true t v d ps) (hb : Below W.heap.size W W') (hlt : ∀ x ∈ ps, x.block < W.heap.size) (hsp : ∀ x ∈ ps, sp x.block = true) : DataW.Trod enc Tryz.prog W' 0 sp true t v d ps :=
  WideElems.Trod_stays laid hr hrow h (fun x hx => hb.same (hlt x hx)) hsp
end

section
variable {H : Type} {enc : TypeId × Value → H} {P : Program}
/-- a row's last step where only new blocks were laid -/
theorem post_of_below {f : Func} {s : ChangeSpec} {apart fresh handsOn again : Bool} {W W' : World} {args : Array Value} {v : Value} {ds gs : List (DataW H)} {before pa pv : List MemPlace}
    (hW : DataW.Whole enc P f.params.toList s.vars apart W args.toList ds gs before)
    (hres : ∀ (b : Nat) (sp : Nat → Bool) (hd : Bool), DataW.TrodAll enc P W' b sp hd f.resultTypes.toList (v.resultList f.resultTypes.size) (s.fn H (ds ++ gs)).results [])
    (hargs : ∀ sp : Nat → Bool, (∀ p ∈ before, sp p.block = true) → DataW.TrodAll enc P W' 0 sp true f.params.toList args.toList (s.fn H (ds ++ gs)).args pa)
    (hvars : ∀ sp : Nat → Bool, (∀ p ∈ before, sp p.block = true) → DataW.TrodVars enc P W' sp s.vars (s.fn H (ds ++ gs)).vars pv)
    (hps : before = pa ++ pv) (hb : Below W.heap.size W W')
    (hok : ∀ (j : Nat) (t : TypeId) (r : Value), f.resultTypes[j]? = some t → (v.resultList f.resultTypes.size)[j]? = some r → Value.okWide P W' .any 0 t r) :
    s.post enc P f apart fresh handsOn again W args v W' := by
  have hlt : ∀ p ∈ before, p.block < W.heap.size := fun p hp => hW.lt p hp
  have hold : ∀ p ∈ before, (fun b => decide (b < W.heap.size)) p.block = true := fun p hp => by simpa using hlt p hp
  refine ⟨ds, gs, before, [], pa, pv, hW, hres _ _ _, hargs _ hold, hvars _ hold, World.keptBut_mono (fun p hp => ⟨hp, ?_⟩) (hb.frame (· ∈ before)), fun _ => ?_⟩
  · rw [hps, List.mem_append] at hp
    exact Or.inr hp
  · obtain ⟨_, _, _, _, _, hz, hn⟩ := hW
    refine ⟨hok, _, _, ([] ++ pa) ++ pv, ⟨[] ++ pa, pv, trodAll_append (hargs _ (fun _ _ => rfl)) (hres _ _ _), hvars _ (fun _ _ => rfl), rfl, ?_, ?_⟩, ?_⟩
    · intro b off hp
      have hin : MemPlace.cell b off ∈ before := by rw [hps]; simpa using hp
      rw [hb.frozen (hlt _ hin)]
      exact hz b off hin
    · intro ha
      have := hn ha
      rw [hps] at this
      simpa using this
    · intro p hp _
      rw [hps]
      simpa using hp
end
end Go.Proofs.YtaaomocodkpmfaaGreatDoor
