
/-
  Arguments opened: a slice of edges, of names, of rules reads as a list; and what a law's row asks behind the call.
  Arguments opened: a slice of rules reads as a list of rules whose terms are trees, whose names fit the form's own reach.
-/
import Derived.Test.YtlficnfkekggjaaGreatDoorFacts
import Derived.Test.YtlficnfkekggjaaGreatDoorRows
import Derived.Carry
import Derived.Below
import Derived.ChangeSame
import Derived.OpenShut
import Derived.ProofKit
import Derived.JoinedCond
import Derived.ReadAgain
import Derived.ChangeMaps5
import Derived.Test.YtlficnfkekggjaaGreatDoorTrees
import Derived.SizedLaws
namespace Go.Proofs.YtlficnfkekggjaaGreatDoor

section
open Go.ChangeShapes Go.WideShapes Go.ChangeAt Go.RowKit

theorem own : ownKnob Tryz.prog.godebug = none := by kernel_rfl
theorem laid : laidOutB Tryz.prog = true := by kernel_rfl

section
variable {H : Type} {enc : TypeId × Value → H} {W : World}
/-- a slice, opened: its elements' cells, each of which reads -/
theorem open_sl {t e : TypeId} {k fuel : Nat} {cs : List Value} {x : DataW H × List MemPlace} (ht : Tryz.prog.underlying t = some (.slice e)) (hk : Tryz.prog.cellsOf e = k) (hk0 : 0 < k)
    (hone : ∀ n cs y, DataW.trod enc Tryz.prog W 0 (fun _ => true) true n e cs = some y → cs.length = k ∧ ∀ u ∈ cs, u.oneCell' = true)
    (h : DataW.trod enc Tryz.prog W 0 (fun _ => true) true fuel t cs = some x) :
    ∃ v css, cs = [v] ∧ Sl (fun _ => True) W k v css ∧ ∀ c ∈ css, ∃ n y, n < fuel ∧ DataW.trod enc Tryz.prog W 0 (fun _ => true) true n e c = some y := by
  rcases DataW.trod_slice ht h with ⟨rfl, rfl⟩ | ⟨a, len, cap, elems, rest, n, rfl, rfl, rfl, hb, hl, hm, hlen, hel, _, _⟩
  · exact ⟨_, [], rfl, Sl.nil _ _ _, by simp⟩
  · have each : ∀ i, i < len → ∃ c y, W.cells? 0 (a.add (i * k)) k = some c ∧ DataW.trod enc Tryz.prog W 0 (fun _ => true) true n e c = some y := by
      intro i hi
      have h1 := hel i hi
      rw [List.getElem?_eq_getElem (by omega), hk, Option.bind_eq_some_iff] at h1
      obtain ⟨c, h2, h3⟩ := h1
      exact ⟨c, _, h2, h3⟩
    have hspot : 0 < len → a.spot = none := by
      intro h0
      obtain ⟨c, y, h1, h2⟩ := each 0 h0
      obtain ⟨h3, _⟩ := hone _ _ _ h2
      obtain ⟨_, h5, h6⟩ := World.cells?_some h1
      have h7 := h6 0 hk0
      rw [List.getElem?_eq_getElem (by omega), Nat.zero_mul] at h7
      have h8 := World.cell?_spot h7
      simpa [Addr.add] using h8
    refine ⟨_, (List.range len).map (fun i => (W.cells? 0 (a.add (i * k)) k).getD []), rfl, ⟨some a, cap, by simp, by simpa using hl, hm, fun i c hi => ?_⟩, fun c hc => ?_⟩
    · have hil : i < len := by have := (List.getElem?_eq_some_iff.1 hi).1; simpa using this
      obtain ⟨c', y, h1, h2⟩ := each i hil
      have hcc : c = c' := by simpa [hil, h1] using hi.symm
      subst hcc
      obtain ⟨h3, h4⟩ := hone _ _ _ h2
      obtain ⟨_, h5, h6⟩ := World.cells?_some h1
      have hc0 : ∃ u, c[0]? = some u := ⟨c[0]'(by omega), List.getElem?_eq_getElem _⟩
      obtain ⟨u, hu⟩ := hc0
      have hu' := h6 0 hk0
      rw [hu] at hu'
      have hlt := lt_of_cell hu'
      obtain ⟨ab, ao, asp⟩ := a
      have hsp : asp = none := hspot (by omega)
      subst hsp
      rw [add_off, add_off] at hlt
      refine ⟨⟨h3, h4⟩, ab, ao, rfl, ⟨trivial, hlt⟩, fun j w hj => ?_⟩
      have hjl : j < k := by have := (List.getElem?_eq_some_iff.1 hj).1; omega
      have := h6 j hjl
      rw [add_off, add_off, hj] at this
      rw [← this, Nat.add_assoc]
    · simp only [List.mem_map, List.mem_range] at hc
      obtain ⟨i, hi, rfl⟩ := hc
      obtain ⟨c', y, h1, h2⟩ := each i hi
      exact ⟨n, y, by omega, by rw [h1]; exact h2⟩

set_option maxRecDepth 100000 in
theorem cells_ed : Tryz.prog.cellsOf 228 = 3 := by kernel_rfl
theorem cells_s : Tryz.prog.cellsOf 9 = 1 := by kernel_rfl
theorem cells_b : Tryz.prog.cellsOf 4 = 1 := by kernel_rfl
set_option maxRecDepth 100000 in
theorem trod_E {n : Nat} {cs : List Value} {y : DataW H × List MemPlace} (h : DataW.trod enc Tryz.prog W 0 (fun _ => true) true n 228 cs = some y) : ∃ e : Ed, cs = e.enc ∧ e.f.size ≤ maxLen ∧ e.t.size ≤ maxLen := by
  obtain ⟨xs, m, rfl, _, hl, hxs, hall⟩ := DataW.trod_struct Tryz.underlying228 h
  rw [cells_ed] at hl
  have hl3 : cs.length = 3 := hl
  obtain ⟨c0, c1, c2, rfl⟩ : ∃ c0 c1 c2, cs = [c0, c1, c2] := by
    match cs, hl3 with
    | [c0, c1, c2], _ => exact ⟨_, _, _, rfl⟩
  have a0 : DataW.trod enc Tryz.prog W 0 (fun _ => true) true m 9 [c0] = xs[0]? := by have := hall 0 _ rfl; simpa [cells_s] using this
  have a1 : DataW.trod enc Tryz.prog W 0 (fun _ => true) true m 9 [c1] = xs[1]? := by have := hall 1 _ rfl; simpa [cells_s] using this
  have a2 : DataW.trod enc Tryz.prog W 0 (fun _ => true) true m 4 [c2] = xs[2]? := by have := hall 2 _ rfl; simpa [cells_b] using this
  have hx3 : xs.length = 3 := hxs
  rw [List.getElem?_eq_getElem (by omega)] at a0 a1 a2
  obtain ⟨s, e0, _, z0⟩ := DataW.trod_string Tryz.underlying9 a0
  obtain ⟨u, e1, _, z1⟩ := DataW.trod_string Tryz.underlying9 a1
  obtain ⟨b, e2, _⟩ := DataW.trod_bool Tryz.underlying4 a2
  injection e0 with e0
  injection e1 with e1
  injection e2 with e2
  subst e0 e1 e2
  exact ⟨⟨s, u, b⟩, rfl, z0, z1⟩
theorem list_of {α : Type} {P : α → Prop} (enc : α → List Value) : ∀ {css : List (List Value)}, (∀ c ∈ css, ∃ x, c = enc x ∧ P x) → ∃ xs : List α, css = xs.map enc ∧ ∀ x ∈ xs, P x
  | [], _ => ⟨[], rfl, by simp⟩
  | c :: r, h => by
    obtain ⟨x, rfl, hx⟩ := h c (by simp)
    obtain ⟨xs, rfl, hxs⟩ := list_of enc (css := r) (fun d hd => h d (by simp [hd]))
    exact ⟨x :: xs, rfl, fun y hy => by rcases List.mem_cons.1 hy with rfl | hy; exact hx; exact hxs y hy⟩
set_option maxRecDepth 100000 in
theorem open_E {base : Nat} {v : Value} {d : DataW H} {ps : List MemPlace} (hval : Value.okWide Tryz.prog W .any base 221 v) (h : DataW.Trod enc Tryz.prog W 0 (fun _ => true) true 221 v d ps) :
    ∃ es : List Ed, SlE (fun _ => True) W v es ∧ ∀ e ∈ es, e.f.size ≤ maxLen ∧ e.t.size ≤ maxLen := by
  obtain ⟨a0, len, cap, rfl⟩ := okWide_slice Tryz.underlying221 hval
  obtain ⟨fuel, hf⟩ := h
  obtain ⟨u, css, e, hsl, hall⟩ := open_sl Tryz.underlying221 (k := 3) cells_ed (by decide) (fun n cs y hy => by
    obtain ⟨x, rfl, _⟩ := trod_E hy
    exact ⟨rfl, by simp [Ed.enc, Value.oneCell']⟩) hf
  obtain ⟨xs, rfl, hxs⟩ := list_of Ed.enc (P := fun e => e.f.size ≤ maxLen ∧ e.t.size ≤ maxLen) (fun c hc => by obtain ⟨n, y, _, hy⟩ := hall c hc; exact trod_E hy)
  have e' : [Value.slice a0 len cap] = [u] := by simpa [Value.cells] using e
  injection e' with e'
  subst e'
  exact ⟨xs, hsl, hxs⟩
set_option maxRecDepth 100000 in
theorem open_S {base : Nat} {v : Value} {d : DataW H} {ps : List MemPlace} (hval : Value.okWide Tryz.prog W .any base 154 v) (h : DataW.Trod enc Tryz.prog W 0 (fun _ => true) true 154 v d ps) :
    ∃ es : List ByteArray, SlS (fun _ => True) W v es ∧ ∀ s ∈ es, s.size ≤ maxLen := by
  obtain ⟨a0, len, cap, rfl⟩ := okWide_slice Tryz.underlying154 hval
  obtain ⟨fuel, hf⟩ := h
  have key : ∀ (n : Nat) (cs : List Value) (y : DataW H × List MemPlace), DataW.trod enc Tryz.prog W 0 (fun _ => true) true n 9 cs = some y → ∃ s, cs = encS s ∧ s.size ≤ maxLen := fun n cs y hy => by
    obtain ⟨s, rfl, _, hs⟩ := DataW.trod_string Tryz.underlying9 hy
    exact ⟨s, rfl, hs⟩
  obtain ⟨u, css, e, hsl, hall⟩ := open_sl Tryz.underlying154 (k := 1) cells_s (by decide) (fun n cs y hy => by
    obtain ⟨x, rfl, _⟩ := key _ _ _ hy
    exact ⟨rfl, by simp [encS, Value.oneCell']⟩) hf
  obtain ⟨xs, rfl, hxs⟩ := list_of encS (P := fun s => s.size ≤ maxLen) (fun c hc => by obtain ⟨n, y, _, hy⟩ := hall c hc; exact key _ _ _ hy)
  have e' : [Value.slice a0 len cap] = [u] := by simpa [Value.cells] using e
  injection e' with e'
  subst e'
  exact ⟨xs, hsl, hxs⟩

set_option maxRecDepth 100000 in
/-- an argument reads behind the call as it read before -/
theorem arg_later {t : TypeId} {v : Value} {d : DataW H} {ps : List MemPlace} {W' : World} {sp : Nat → Bool} (hr : Tryz.prog.readableRec t = true) (hrow : t < Tryz.prog.types.size)
    (h : DataW.Trod enc Tryz.prog W 0 (fun _ => true) true t v d ps) (hb : Below W.heap.size W W') (hlt : ∀ x ∈ ps, x.block < W.heap.size) (hsp : ∀ x ∈ ps, sp x.block = true) : DataW.Trod enc Tryz.prog W' 0 sp true t v d ps :=
  WideElems.Trod_stays laid hr hrow h (fun x hx => hb.same (hlt x hx)) hsp
end

section
variable {H : Type} {enc : TypeId × Value → H} {P : Program}
/-- a row's last step where only new blocks were laid -/
theorem post_of_below {f : Func} {s : ChangeSpec} {apart fresh handsOn again : Bool} {W W' : World} {args : Array Value} {v : Value} {ds gs : List (DataW H)} {before pa pv : List MemPlace}
    (hW : DataW.Whole enc P f.params.toList s.vars apart W args.toList ds gs before)
    (hres : ∀ (b : Nat) (sp : Nat → Bool) (hd : Bool), DataW.TrodAll enc P W' b sp hd f.resultTypes.toList (v.resultList f.resultTypes.size) (s.fn H (ds ++ gs)).results [])
    (hargs : ∀ sp : Nat → Bool, (∀ p ∈ before, sp p.block = true) → DataW.TrodAll enc P W' 0 sp true f.params.toList args.toList (s.fn H (ds ++ gs)).args pa)
    (hvars : ∀ sp : Nat → Bool, (∀ p ∈ before, sp p.block = true) → DataW.TrodVars enc P W' sp s.vars (s.fn H (ds ++ gs)).vars pv)
    (hps : before = pa ++ pv) (hb : Below W.heap.size W W')
    (hok : ∀ (j : Nat) (t : TypeId) (r : Value), f.resultTypes[j]? = some t → (v.resultList f.resultTypes.size)[j]? = some r → Value.okWide P W' .any 0 t r) :
    s.post enc P f apart fresh handsOn again W args v W' := by
  have hlt : ∀ p ∈ before, p.block < W.heap.size := fun p hp => hW.lt p hp
  have hold : ∀ p ∈ before, (fun b => decide (b < W.heap.size)) p.block = true := fun p hp => by simpa using hlt p hp
  refine ⟨ds, gs, before, [], pa, pv, hW, hres _ _ _, hargs _ hold, hvars _ hold, World.keptBut_mono (fun p hp => ⟨hp, ?_⟩) (hb.frame (· ∈ before)), fun _ => ?_⟩
  · rw [hps, List.mem_append] at hp
    exact Or.inr hp
  · obtain ⟨_, _, _, _, _, hz, hn⟩ := hW
    refine ⟨hok, _, _, ([] ++ pa) ++ pv, ⟨[] ++ pa, pv, trodAll_append (hargs _ (fun _ _ => rfl)) (hres _ _ _), hvars _ (fun _ _ => rfl), rfl, ?_, ?_⟩, ?_⟩
    · intro b off hp
      have hin : MemPlace.cell b off ∈ before := by rw [hps]; simpa using hp
      rw [hb.frozen (hlt _ hin)]
      exact hz b off hin
    · intro ha
      have := hn ha
      rw [hps] at this
      simpa using this
    · intro p hp _
      rw [hps]
      simpa using hp
end
end

section
open Go.ChangeShapes Go.WideShapes Go.ChangeAt Go.RowKit

section
variable {H : Type} {enc : TypeId × Value → H} {W : World}
/-- a datum whose parts fit the form's own reach -/
def WOk (t : TypeId) (d : DataW H) : Prop := ∀ n ∈ d.weights Tryz.prog t, n ≤ reachBytes
theorem weightsAll_mem {P : Program} {e : TypeId} : ∀ {ds : List (DataW H)} {d : DataW H}, d ∈ ds → ∀ n ∈ d.weights P e, n ∈ DataW.weightsAll P e ds
  | d0 :: r, d, h, n, hn => by
    simp only [DataW.weightsAll, List.mem_append]
    rcases List.mem_cons.1 h with rfl | h
    · exact .inl hn
    · exact .inr (weightsAll_mem h n hn)
theorem wok_of {ts : List TypeId} {ds : List (DataW H)} (h : (DataW.weightsEach Tryz.prog ts ds).all (· ≤ reachBytes) = true) {j : Nat} {t : TypeId} {d : DataW H} (ht : ts[j]? = some t) (hd : ds[j]? = some d) : WOk t d := fun n hn => by
  have := List.all_eq_true.1 h n (DataW.weights_mem_each ht hd n hn)
  simpa using this
theorem WOk.field {t : TypeId} {fs : Array Field} {xs : List (DataW H × List MemPlace)} (ht : Tryz.prog.underlying t = some (.struct fs)) (h : WOk t (.agg (xs.map (·.1)))) {j : Nat} {f : Field} {y : DataW H × List MemPlace} (hf : fs[j]? = some f) (hy : xs[j]? = some y) : WOk f.type y.1 := by
  intro n hn
  refine h n ?_
  simp only [DataW.weights, ht]
  exact DataW.weights_mem_each (j := j) (t := f.type) (d := y.1) (by simp [hf]) (by simp [hy]) n hn
/-- a slice, opened: its elements' cells, each of which reads, and fits -/
theorem open_slw {t e : TypeId} {k fuel : Nat} {cs : List Value} {x : DataW H × List MemPlace} (ht : Tryz.prog.underlying t = some (.slice e)) (hk : Tryz.prog.cellsOf e = k) (hk0 : 0 < k)
    (hone : ∀ n cs y, DataW.trod enc Tryz.prog W 0 (fun _ => true) true n e cs = some y → cs.length = k ∧ ∀ u ∈ cs, u.oneCell' = true)
    (h : DataW.trod enc Tryz.prog W 0 (fun _ => true) true fuel t cs = some x) (hw : WOk t x.1) :
    ∃ v css, cs = [v] ∧ Sl (fun _ => True) W k v css ∧ ∀ c ∈ css, ∃ n y, n < fuel ∧ DataW.trod enc Tryz.prog W 0 (fun _ => true) true n e c = some y ∧ WOk e y.1 := by
  rcases DataW.trod_slice ht h with ⟨rfl, rfl⟩ | ⟨a, len, cap, elems, rest, n, rfl, rfl, rfl, hb, hl, hm, hlen, hel, _, _⟩
  · exact ⟨_, [], rfl, Sl.nil _ _ _, by simp⟩
  · have each : ∀ i, i < len → ∃ c y, W.cells? 0 (a.add (i * k)) k = some c ∧ DataW.trod enc Tryz.prog W 0 (fun _ => true) true n e c = some y ∧ WOk e y.1 := by
      intro i hi
      have h1 := hel i hi
      rw [List.getElem?_eq_getElem (by omega), hk, Option.bind_eq_some_iff] at h1
      obtain ⟨c, h2, h3⟩ := h1
      refine ⟨c, _, h2, h3, fun m hm => hw m ?_⟩
      simp only [DataW.weights, ht, List.mem_cons, List.mem_append]
      exact .inr (.inl (weightsAll_mem (List.mem_map.2 ⟨_, List.getElem_mem _, rfl⟩) m hm))
    have hspot : 0 < len → a.spot = none := by
      intro h0
      obtain ⟨c, y, h1, h2, _⟩ := each 0 h0
      obtain ⟨h3, _⟩ := hone _ _ _ h2
      obtain ⟨_, h5, h6⟩ := World.cells?_some h1
      have h7 := h6 0 hk0
      rw [List.getElem?_eq_getElem (by omega), Nat.zero_mul] at h7
      have h8 := World.cell?_spot h7
      simpa [Addr.add] using h8
    refine ⟨_, (List.range len).map (fun i => (W.cells? 0 (a.add (i * k)) k).getD []), rfl, ⟨some a, cap, by simp, by simpa using hl, hm, fun i c hi => ?_⟩, fun c hc => ?_⟩
    · have hil : i < len := by have := (List.getElem?_eq_some_iff.1 hi).1; simpa using this
      obtain ⟨c', y, h1, h2, _⟩ := each i hil
      have hcc : c = c' := by simpa [hil, h1] using hi.symm
      subst hcc
      obtain ⟨h3, h4⟩ := hone _ _ _ h2
      obtain ⟨_, h5, h6⟩ := World.cells?_some h1
      have hc0 : ∃ u, c[0]? = some u := ⟨c[0]'(by omega), List.getElem?_eq_getElem _⟩
      obtain ⟨u, hu⟩ := hc0
      have hu' := h6 0 hk0
      rw [hu] at hu'
      have hlt := lt_of_cell hu'
      obtain ⟨ab, ao, asp⟩ := a
      have hsp : asp = none := hspot (by omega)
      subst hsp
      rw [add_off, add_off] at hlt
      refine ⟨⟨h3, h4⟩, ab, ao, rfl, ⟨trivial, hlt⟩, fun j w hj => ?_⟩
      have hjl : j < k := by have := (List.getElem?_eq_some_iff.1 hj).1; omega
      have := h6 j hjl
      rw [add_off, add_off, hj] at this
      rw [← this, Nat.add_assoc]
    · simp only [List.mem_map, List.mem_range] at hc
      obtain ⟨i, hi, rfl⟩ := hc
      obtain ⟨c', y, h1, h2, h3⟩ := each i hi
      exact ⟨n, y, by omega, by rw [h1]; exact h2, h3⟩

set_option maxRecDepth 100000 in
theorem cells_tm : Tryz.prog.cellsOf 84 = 2 := by kernel_rfl
theorem cells_ts : Tryz.prog.cellsOf 66 = 1 := by kernel_rfl
set_option maxRecDepth 100000 in
theorem cells_li : Tryz.prog.cellsOf 141 = 3 := by kernel_rfl
theorem cells_ls : Tryz.prog.cellsOf 85 = 1 := by kernel_rfl
set_option maxRecDepth 100000 in
theorem cells_ru : Tryz.prog.cellsOf 87 = 3 := by kernel_rfl
/-- a slice is one cell -/
theorem slice_cell {t e : TypeId} {n : Nat} {cs : List Value} {y : DataW H × List MemPlace} (ht : Tryz.prog.underlying t = some (.slice e)) (h : DataW.trod enc Tryz.prog W 0 (fun _ => true) true n t cs = some y) : ∃ a l c, cs = [.slice a l c] := by
  rcases DataW.trod_slice ht h with ⟨rfl, rfl⟩ | ⟨a, len, cap, elems, rest, n, rfl, rfl, _⟩
  · exact ⟨_, _, _, rfl⟩
  · exact ⟨_, _, _, rfl⟩
theorem str_ok {n : Nat} {c : Value} {y : DataW H × List MemPlace} (h : DataW.trod enc Tryz.prog W 0 (fun _ => true) true n 9 [c] = some y) : ∃ s, c = .string s ∧ (WOk 9 y.1 → s.size ≤ reachBytes) := by
  obtain ⟨s, e0, rfl, z0⟩ := DataW.trod_string Tryz.underlying9 h
  injection e0 with e0
  refine ⟨s, e0, fun hw => ?_⟩
  have := hw s.data.toList.length (by simp [DataW.weights])
  simpa using this
set_option maxRecDepth 100000 in
theorem shape_T {n : Nat} {cs : List Value} {y : DataW H × List MemPlace} (h : DataW.trod enc Tryz.prog W 0 (fun _ => true) true n 84 cs = some y) :
    ∃ s a l c m x, cs = [.string s, .slice a l c] ∧ m < n ∧ DataW.trod enc Tryz.prog W 0 (fun _ => true) true m 66 [.slice a l c] = some x ∧ (WOk 84 y.1 → s.size ≤ reachBytes ∧ WOk 66 x.1) := by
  obtain ⟨xs, m, rfl, hy, hl, hxs, hall⟩ := DataW.trod_struct Tryz.underlying84 h
  rw [cells_tm] at hl
  have hl2 : cs.length = 2 := hl
  obtain ⟨c0, c1, rfl⟩ : ∃ c0 c1, cs = [c0, c1] := by
    match cs, hl2 with
    | [c0, c1], _ => exact ⟨_, _, rfl⟩
  have a0 : DataW.trod enc Tryz.prog W 0 (fun _ => true) true m 9 [c0] = xs[0]? := by have := hall 0 _ rfl; simpa [cells_s] using this
  have a1 : DataW.trod enc Tryz.prog W 0 (fun _ => true) true m 66 [c1] = xs[1]? := by have := hall 1 _ rfl; simpa [cells_ts] using this
  have hx2 : xs.length = 2 := hxs
  have g0 := List.getElem?_eq_getElem (l := xs) (i := 0) (by omega)
  have g1 := List.getElem?_eq_getElem (l := xs) (i := 1) (by omega)
  rw [g0] at a0
  rw [g1] at a1
  obtain ⟨s, rfl, z0⟩ := str_ok a0
  obtain ⟨a, l, c, e1⟩ := slice_cell Tryz.underlying66 a1
  injection e1 with e1
  subst e1
  refine ⟨s, a, l, c, m, _, rfl, by omega, a1, fun hw => ?_⟩
  rw [hy] at hw
  exact ⟨z0 (WOk.field Tryz.underlying84 hw (j := 0) rfl g0), WOk.field Tryz.underlying84 hw (j := 1) rfl g1⟩
theorem trod_Ts (N : Nat) (IH : ∀ n, n < N → ∀ (cs : List Value) (y : DataW H × List MemPlace), DataW.trod enc Tryz.prog W 0 (fun _ => true) true n 84 cs = some y → WOk 84 y.1 → ∃ t, TmR (fun _ => True) W t cs ∧ Nice reachBytes maxLen t)
    {v : Value} {y : DataW H × List MemPlace} (h : DataW.trod enc Tryz.prog W 0 (fun _ => true) true N 66 [v] = some y) (hw : WOk 66 y.1) : ∃ ts, SlT (fun _ => True) W v ts ∧ NiceL reachBytes maxLen ts ∧ ts.length ≤ maxLen := by
  obtain ⟨u, css, e, hsl, hall⟩ := open_slw Tryz.underlying66 (k := 2) cells_tm (by decide) (fun n cs y hy => by
    obtain ⟨s, a, l, c, m, x, rfl, _⟩ := shape_T hy
    exact ⟨rfl, by simp [Value.oneCell']⟩) h hw
  injection e with e
  subst e
  have hc : ∀ c ∈ css, ∃ t, TmR (fun _ => True) W t c ∧ Nice reachBytes maxLen t := fun c hc => by
    obtain ⟨n, y, hn, hy, hwy⟩ := hall c hc
    exact IH n hn _ _ hy hwy
  have hex : ∃ ts, TmsR (fun _ => True) W ts css ∧ NiceL reachBytes maxLen ts := by
    clear hsl hall
    induction css with
    | nil => exact ⟨[], by simp [TmsR], by simp [NiceL]⟩
    | cons c r ih =>
      obtain ⟨t, h1, h2⟩ := hc c (by simp)
      obtain ⟨ts, h3, h4⟩ := ih (fun d hd => hc d (by simp [hd]))
      exact ⟨t :: ts, by simp only [TmsR]; exact ⟨c, r, rfl, h1, h3⟩, by simp only [NiceL]; exact ⟨h2, h4⟩⟩
  obtain ⟨ts, h1, h2⟩ := hex
  exact ⟨ts, ⟨css, hsl, h1⟩, h2, by have := hsl.len; rw [h1.len] at this; exact this⟩
theorem trod_T : ∀ (N n : Nat), n < N → ∀ (cs : List Value) (y : DataW H × List MemPlace), DataW.trod enc Tryz.prog W 0 (fun _ => true) true n 84 cs = some y → WOk 84 y.1 → ∃ t, TmR (fun _ => True) W t cs ∧ Nice reachBytes maxLen t
  | 0, _, h, _, _, _, _ => absurd h (by omega)
  | N + 1, n, hn, cs, y, h, hw => by
    obtain ⟨s, a, l, c, m, x, rfl, hm, hx, hz⟩ := shape_T h
    obtain ⟨hz1, hz2⟩ := hz hw
    obtain ⟨ts, ⟨css, h1, h2⟩, h3, h4⟩ := trod_Ts m (fun n' hn' => trod_T N n' (by omega)) hx hz2
    exact ⟨.mk s ts, by simp only [TmR]; exact ⟨_, css, rfl, h1, h2⟩, by simp only [Nice]; exact ⟨hz1, h4, h3⟩⟩
/-- a list of elements of which each reads -/
theorem glist_of {α : Type} {R : World → α → List Value → Prop} {Q : α → Prop} : ∀ {css : List (List Value)}, (∀ c ∈ css, ∃ x, R W x c ∧ Q x) → ∃ xs : List α, css.length = xs.length ∧ (∀ (i : Nat) (cs : List Value) (x : α), css[i]? = some cs → xs[i]? = some x → R W x cs) ∧ ∀ x ∈ xs, Q x
  | [], _ => ⟨[], rfl, by simp, by simp⟩
  | c :: r, h => by
    obtain ⟨x, h1, h2⟩ := h c (by simp)
    obtain ⟨xs, h3, h4, h5⟩ := glist_of (css := r) (fun d hd => h d (by simp [hd]))
    refine ⟨x :: xs, by simp [h3], fun i cs y h6 h7 => ?_, fun y hy => by rcases List.mem_cons.1 hy with rfl | hy; exact h2; exact h5 y hy⟩
    cases i with
    | zero => simp at h6 h7; subst h6 h7; exact h1
    | succ i => exact h4 i cs y (by simpa using h6) (by simpa using h7)
/-- a rule whose terms are nice -/
def NiceR (B b : Nat) (r : Ru) : Prop := Nice B b r.head ∧ ∀ x ∈ r.body, Nice B b x.atom
set_option maxRecDepth 100000 in
theorem shape_Li {n : Nat} {cs : List Value} {y : DataW H × List MemPlace} (h : DataW.trod enc Tryz.prog W 0 (fun _ => true) true n 141 cs = some y) :
    ∃ b c0 c1 m x, cs = [.bool b, c0, c1] ∧ m < n ∧ DataW.trod enc Tryz.prog W 0 (fun _ => true) true m 84 [c0, c1] = some x ∧ (WOk 141 y.1 → WOk 84 x.1) := by
  obtain ⟨xs, m, rfl, hy, hl, hxs, hall⟩ := DataW.trod_struct Tryz.underlying141 h
  rw [cells_li] at hl
  have hl2 : cs.length = 3 := hl
  obtain ⟨c0, c1, c2, rfl⟩ : ∃ c0 c1 c2, cs = [c0, c1, c2] := by
    match cs, hl2 with
    | [c0, c1, c2], _ => exact ⟨_, _, _, rfl⟩
  have a0 : DataW.trod enc Tryz.prog W 0 (fun _ => true) true m 4 [c0] = xs[0]? := by have := hall 0 _ rfl; simpa [cells_b] using this
  have a1 : DataW.trod enc Tryz.prog W 0 (fun _ => true) true m 84 [c1, c2] = xs[1]? := by have := hall 1 _ rfl; simpa [cells_tm] using this
  have hx2 : xs.length = 2 := hxs
  have g0 := List.getElem?_eq_getElem (l := xs) (i := 0) (by omega)
  have g1 := List.getElem?_eq_getElem (l := xs) (i := 1) (by omega)
  rw [g0] at a0
  rw [g1] at a1
  obtain ⟨b, e2, _⟩ := DataW.trod_bool Tryz.underlying4 a0
  injection e2 with e2
  subst e2
  refine ⟨b, c1, c2, m, _, rfl, by omega, a1, fun hw => ?_⟩
  rw [hy] at hw
  exact WOk.field Tryz.underlying141 hw (j := 1) rfl g1
theorem trod_Li {n : Nat} {cs : List Value} {y : DataW H × List MemPlace} (h : DataW.trod enc Tryz.prog W 0 (fun _ => true) true n 141 cs = some y) (hw : WOk 141 y.1) : ∃ x : Li, LiR (fun _ => True) W x cs ∧ Nice reachBytes maxLen x.atom := by
  obtain ⟨b, c0, c1, m, x, rfl, _, hx, hz⟩ := shape_Li h
  obtain ⟨t, h1, h2⟩ := trod_T (m + 1) m (by omega) _ _ hx (hz hw)
  obtain ⟨nm, ags⟩ := t
  simp only [TmR] at h1
  obtain ⟨v, css, e, h3, h4⟩ := h1
  injection e with e0 e1
  injection e1 with e1
  subst e0 e1
  exact ⟨⟨b, .mk nm ags⟩, ⟨_, rfl, css, h3, h4⟩, h2⟩
theorem one_T {n : Nat} {cs : List Value} {y : DataW H × List MemPlace} (h : DataW.trod enc Tryz.prog W 0 (fun _ => true) true n 84 cs = some y) : cs.length = 2 ∧ ∀ u ∈ cs, u.oneCell' = true := by
  obtain ⟨s, a, l, c, m, x, rfl, _⟩ := shape_T h
  exact ⟨rfl, by simp [Value.oneCell']⟩
theorem one_Li {n : Nat} {cs : List Value} {y : DataW H × List MemPlace} (h : DataW.trod enc Tryz.prog W 0 (fun _ => true) true n 141 cs = some y) : cs.length = 3 ∧ ∀ u ∈ cs, u.oneCell' = true := by
  obtain ⟨b, c0, c1, m, x, rfl, _, hx, _⟩ := shape_Li h
  have := (one_T hx).2
  exact ⟨rfl, fun u hu => by rcases List.mem_cons.1 hu with rfl | hu; simp [Value.oneCell']; exact this u hu⟩
set_option maxRecDepth 100000 in
theorem shape_Ru {n : Nat} {cs : List Value} {y : DataW H × List MemPlace} (h : DataW.trod enc Tryz.prog W 0 (fun _ => true) true n 87 cs = some y) :
    ∃ c0 c1 a l c m x z, cs = [c0, c1, .slice a l c] ∧ m < n ∧ DataW.trod enc Tryz.prog W 0 (fun _ => true) true m 84 [c0, c1] = some x ∧ DataW.trod enc Tryz.prog W 0 (fun _ => true) true m 85 [.slice a l c] = some z ∧ (WOk 87 y.1 → WOk 84 x.1 ∧ WOk 85 z.1) := by
  obtain ⟨xs, m, rfl, hy, hl, hxs, hall⟩ := DataW.trod_struct Tryz.underlying87 h
  rw [cells_ru] at hl
  have hl2 : cs.length = 3 := hl
  obtain ⟨c0, c1, c2, rfl⟩ : ∃ c0 c1 c2, cs = [c0, c1, c2] := by
    match cs, hl2 with
    | [c0, c1, c2], _ => exact ⟨_, _, _, rfl⟩
  have a0 : DataW.trod enc Tryz.prog W 0 (fun _ => true) true m 84 [c0, c1] = xs[0]? := by have := hall 0 _ rfl; simpa [cells_tm] using this
  have a1 : DataW.trod enc Tryz.prog W 0 (fun _ => true) true m 85 [c2] = xs[1]? := by have := hall 1 _ rfl; simpa [cells_ls] using this
  have hx2 : xs.length = 2 := hxs
  have g0 := List.getElem?_eq_getElem (l := xs) (i := 0) (by omega)
  have g1 := List.getElem?_eq_getElem (l := xs) (i := 1) (by omega)
  rw [g0] at a0
  rw [g1] at a1
  obtain ⟨a, l, c, e1⟩ := slice_cell Tryz.underlying85 a1
  injection e1 with e1
  subst e1
  refine ⟨c0, c1, a, l, c, m, _, _, rfl, by omega, a0, a1, fun hw => ?_⟩
  rw [hy] at hw
  exact ⟨WOk.field Tryz.underlying87 hw (j := 0) rfl g0, WOk.field Tryz.underlying87 hw (j := 1) rfl g1⟩
theorem one_Ru {n : Nat} {cs : List Value} {y : DataW H × List MemPlace} (h : DataW.trod enc Tryz.prog W 0 (fun _ => true) true n 87 cs = some y) : cs.length = 3 ∧ ∀ u ∈ cs, u.oneCell' = true := by
  obtain ⟨c0, c1, a, l, c, m, x, z, rfl, _, hx, _⟩ := shape_Ru h
  have := (one_T hx).2
  exact ⟨rfl, fun u hu => by
    simp only [List.mem_cons, List.not_mem_nil, or_false] at hu
    rcases hu with rfl | rfl | rfl
    · exact this _ (by simp)
    · exact this _ (by simp)
    · simp [Value.oneCell']⟩
theorem trod_Ru {n : Nat} {cs : List Value} {y : DataW H × List MemPlace} (h : DataW.trod enc Tryz.prog W 0 (fun _ => true) true n 87 cs = some y) (hw : WOk 87 y.1) : ∃ r : Ru, RuR (fun _ => True) W r cs ∧ NiceR reachBytes maxLen r := by
  obtain ⟨c0, c1, a, l, c, m, x, z, rfl, _, hx, hb, hz⟩ := shape_Ru h
  obtain ⟨hz1, hz2⟩ := hz hw
  obtain ⟨t, h1, h2⟩ := trod_T (m + 1) m (by omega) _ _ hx hz1
  obtain ⟨nm, ags⟩ := t
  simp only [TmR] at h1
  obtain ⟨v, css, e, h3, h4⟩ := h1
  injection e with e0 e1
  injection e1 with e1
  subst e0 e1
  obtain ⟨u, cls, e, hsl, hall⟩ := open_slw Tryz.underlying85 (k := 3) cells_li (by decide) (fun n cs y hy => one_Li hy) hb hz2
  injection e with e
  subst e
  obtain ⟨xs, h5, h6, h7⟩ := glist_of (R := LiR (fun _ => True)) (Q := fun x => Nice reachBytes maxLen x.atom) (css := cls) (fun c hc => by obtain ⟨n, y, _, hy, hwy⟩ := hall c hc; exact trod_Li hy hwy)
  exact ⟨⟨.mk nm ags, xs⟩, ⟨_, _, rfl, ⟨css, h3, h4⟩, cls, hsl, h5, h6⟩, h2, h7⟩
set_option maxRecDepth 100000 in
theorem open_R {base : Nat} {v : Value} {d : DataW H} {ps : List MemPlace} (hval : Value.okWide Tryz.prog W .any base 38 v) (h : DataW.Trod enc Tryz.prog W 0 (fun _ => true) true 38 v d ps) (hw : WOk 38 d) :
    ∃ rs : List Ru, SlR (fun _ => True) W v rs ∧ ∀ r ∈ rs, NiceR reachBytes maxLen r := by
  obtain ⟨a0, len, cap, rfl⟩ := okWide_slice Tryz.underlying38 hval
  obtain ⟨fuel, hf⟩ := h
  obtain ⟨u, css, e, hsl, hall⟩ := open_slw Tryz.underlying38 (k := 3) cells_ru (by decide) (fun n cs y hy => one_Ru hy) hf hw
  obtain ⟨xs, h5, h6, h7⟩ := glist_of (R := RuR (fun _ => True)) (Q := NiceR reachBytes maxLen) (css := css) (fun c hc => by obtain ⟨n, y, _, hy, hwy⟩ := hall c hc; exact trod_Ru hy hwy)
  have e' : [Value.slice a0 len cap] = [u] := by simpa [Value.cells] using e
  injection e' with e'
  subst e'
  exact ⟨xs, ⟨css, hsl, h5, h6⟩, h7⟩
end
end
end Go.Proofs.YtlficnfkekggjaaGreatDoor
