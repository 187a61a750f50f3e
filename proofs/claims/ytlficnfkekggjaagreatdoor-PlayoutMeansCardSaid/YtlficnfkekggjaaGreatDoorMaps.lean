
/-
  A map of the call's own as a list of entries. No program is in sight here.
-/
import Derived.Test.YtlficnfkekggjaaGreatDoorBase
import Derived.Maps.OwnSet
import Derived.Maps.RangeWalk
import Derived.WideKeyRuns
namespace Go.Proofs.YtlficnfkekggjaaGreatDoor
open Go.RowKit Go.MapKept
open Go.ChangeMaps (setBlock heap_setBlock_same heap_setBlock_other)

/-- how keys of a type are found: told by the values that 'enc' gives -/
structure Keys {α : Type} (P : Program) (kt : TypeId) (enc : α → Value) : Prop where
  inj : ∀ a b, enc a = enc b → a = b
  check : ∀ (em : Bool) (a : α) (w : World), (Instr.checkKey em 10000 kt (enc a)).run P w = .ok () w
  none : ∀ (es : List MapEntry) (a : α) (w : World), (∀ e ∈ es, ∃ b, e.key = enc b ∧ b ≠ a) → (Instr.findKey kt (enc a) es).run P w = .ok none w
  some : ∀ (es : List MapEntry) (a : α) (j : Nat) (e : MapEntry) (w : World), (∀ e ∈ es, ∃ b, e.key = enc b) → es[j]? = some e → e.key = enc a → (∀ (i : Nat) (e' : MapEntry), es[i]? = some e' → e'.key = enc a → i = j) → (Instr.findKey kt (enc a) es).run P w = .ok (some (j, e.val)) w
  stays : ∀ (a : α) (w : World), (Instr.keyThatStays (enc a) (enc a)).run P w = .ok (enc a) w

theorem strKeys {P : Program} {kt : TypeId} (h : P.underlying kt = some .string) : Keys P kt (fun s : ByteArray => Value.string s) where
  inj a b h := by injection h
  check em a w := run_checkKey (k := .string a) h trivial em 9999
  none es a w hes := by
    refine run_findKey h ?_
    rcases findNow_spec (d := .string) (k := .string a) trivial es 0 (fun x hx => by obtain ⟨b, hb, _⟩ := hes x hx; rw [hb]; trivial) with ⟨h1, _⟩ | ⟨j, e, _, h2, h3⟩
    · exact h1
    · obtain ⟨b, hb, hne⟩ := hes e (List.mem_of_getElem? h2)
      rw [hb] at h3
      injection h3 with h3
      exact absurd h3 hne
  some es a j e w hes hj he hfirst := by
    refine run_findKey h ?_
    rcases findNow_spec (d := .string) (k := .string a) trivial es 0 (fun x hx => by obtain ⟨b, hb⟩ := hes x hx; rw [hb]; trivial) with ⟨_, h2⟩ | ⟨j', e', h1, h2, h3⟩
    · exact absurd he (h2 e (List.mem_of_getElem? hj))
    · have hjj : j' = j := hfirst j' e' h2 h3
      subst hjj
      rw [h2] at hj
      injection hj with hj
      subst hj
      rw [h1]; simp
  stays a w := by
    have : Instr.sameBits 10000 (.string a) (.string a) = true := by
      show (a == a) = true
      rw [beq_toListBytes]; simp
    simp [Instr.keyThatStays, this]

/-- block b is a map whose entries are kv, in the order in which they were laid -/
def MapAt {α : Type} (w : World) (enc : α → Value) (b : Nat) (kv : List (α × Value)) : Prop :=
  ∃ es clock, w.heap[b]? = some (.map es clock) ∧ es.toList.map (·.key) = kv.map (fun x => enc x.1) ∧ es.toList.map (·.val) = kv.map (·.2) ∧ (kv.map (·.1)).Nodup ∧ (∀ x ∈ es.toList, x.born < clock) ∧ (es.toList.map (·.born)).Nodup

section
variable {α : Type} [DecidableEq α]
def aget : List (α × Value) → α → Option Value
  | [], _ => none
  | x :: r, a => if x.1 = a then some x.2 else aget r a
def aset : List (α × Value) → α → Value → List (α × Value)
  | [], a, v => [(a, v)]
  | x :: r, a, v => if x.1 = a then (a, v) :: r else x :: aset r a v
def adel : List (α × Value) → α → List (α × Value)
  | [], _ => []
  | x :: r, a => if x.1 = a then r else x :: adel r a
theorem aget_aset (kv : List (α × Value)) (a : α) (v : Value) (c : α) : aget (aset kv a v) c = if c = a then some v else aget kv c := by
  induction kv with
  | nil => simp only [aset, aget]; grind
  | cons x r ih => simp only [aset, aget]; split <;> simp only [aget, ih] <;> grind
theorem aget_adel (kv : List (α × Value)) (hn : (kv.map (·.1)).Nodup) (a c : α) : aget (adel kv a) c = if c = a then none else aget kv c := by
  induction kv with
  | nil => simp [adel, aget]
  | cons x r ih =>
    simp only [List.map_cons, List.nodup_cons] at hn
    have hno : ∀ (l : List (α × Value)) (b : α), b ∉ l.map (·.1) → aget l b = none := by
      intro l b
      induction l with
      | nil => intro _; rfl
      | cons y l ih2 => intro h; simp only [List.map_cons, List.mem_cons, not_or] at h; simp only [aget]; rw [if_neg (fun e => h.1 e.symm), ih2 h.2]
    simp only [adel, aget]
    split
    · rename_i hx
      subst hx
      by_cases hc : c = x.1
      · rw [if_pos hc, hc]; exact hno r _ hn.1
      · rw [if_neg hc, if_neg (fun e => hc e.symm)]
    · rename_i hx
      simp only [aget, ih hn.2]
      grind
theorem aget_none (kv : List (α × Value)) (a : α) : aget kv a = none ↔ a ∉ kv.map (·.1) := by
  induction kv with
  | nil => simp [aget]
  | cons x r ih => simp only [aget, List.map_cons, List.mem_cons]; split <;> grind
theorem keys_aset (kv : List (α × Value)) (a : α) (v : Value) : (aset kv a v).map (·.1) = if a ∈ kv.map (·.1) then kv.map (·.1) else kv.map (·.1) ++ [a] := by
  induction kv with
  | nil => simp [aset]
  | cons x r ih => simp only [aset]; split <;> simp only [List.map_cons, ih] <;> grind
theorem mem_aset (kv : List (α × Value)) (a : α) (v : Value) (c : α) : c ∈ (aset kv a v).map (·.1) ↔ c = a ∨ c ∈ kv.map (·.1) := by
  rw [keys_aset]; split <;> grind
theorem nodup_aset (kv : List (α × Value)) (a : α) (v : Value) (h : (kv.map (·.1)).Nodup) : ((aset kv a v).map (·.1)).Nodup := by
  rw [keys_aset]; split
  · exact h
  · rename_i hn
    rw [List.nodup_append]
    exact ⟨h, by simp, fun x hx y hy e => by simp at hy; subst hy; subst e; exact hn hx⟩
theorem mem_adel (kv : List (α × Value)) (hn : (kv.map (·.1)).Nodup) (a c : α) : c ∈ (adel kv a).map (·.1) ↔ c ≠ a ∧ c ∈ kv.map (·.1) := by
  have h1 := aget_adel kv hn a c
  have h2 := aget_none (adel kv a) c
  have h3 := aget_none kv c
  by_cases hc : c = a
  · rw [if_pos hc] at h1; have := h2.1 h1; grind
  · rw [if_neg hc] at h1
    rw [h1] at h2
    constructor
    · intro h; refine ⟨hc, ?_⟩; apply Classical.byContradiction; intro h4; exact h2.1 (h3.2 h4) h
    · rintro ⟨_, h⟩; apply Classical.byContradiction; intro h4; exact h3.1 (h2.2 h4) h
theorem sub_adel (kv : List (α × Value)) (a : α) : (adel kv a).Sublist kv := by
  induction kv with
  | nil => simp [adel]
  | cons x r ih => simp only [adel]; split; exact List.sublist_cons_self _ _; exact ih.cons_cons _
end

section
variable {α : Type} [DecidableEq α] {P : Program} {w w' : World} {enc : α → Value} {b : Nat} {kv : List (α × Value)} {t kt et : TypeId}
omit [DecidableEq α] in
theorem MapAt.lt (h : MapAt w enc b kv) : b < w.heap.size := by obtain ⟨es, clock, hb, _⟩ := h; exact lt_of_heap hb
omit [DecidableEq α] in
theorem MapAt.nodup (h : MapAt w enc b kv) : (kv.map (·.1)).Nodup := by obtain ⟨es, clock, hb, _, _, h, _⟩ := h; exact h
omit [DecidableEq α] in
theorem MapAt.ch {S : List Nat} (h : MapAt w enc b kv) (hc : Ch S w w') (hn : b ∉ S) : MapAt w' enc b kv := by
  obtain ⟨es, clock, hb, r⟩ := h
  exact ⟨es, clock, (hc.block b (lt_of_heap hb) hn).trans hb, r⟩
omit [DecidableEq α] in
theorem MapAt.alloc (h : MapAt w enc b kv) (o : Obj) : MapAt (w.alloc o) enc b kv := h.ch ((Ch.refl [] w).alloc o) (by simp)
omit [DecidableEq α] in
theorem MapAt.new (w : World) (enc : α → Value) : MapAt (w.alloc (.map #[] 0)) enc w.heap.size [] := ⟨#[], 0, (MapKept.heap_alloc w _).1, by simp, by simp, by simp, by simp, by simp⟩
omit [DecidableEq α] in
theorem ent_at {es : Array MapEntry} {kv : List (α × Value)} (hk : es.toList.map (·.key) = kv.map (fun x => enc x.1)) (hv : es.toList.map (·.val) = kv.map (·.2)) {j : Nat} {x : α × Value} (h : kv[j]? = some x) :
    ∃ e, es.toList[j]? = some e ∧ e.key = enc x.1 ∧ e.val = x.2 := by
  have h1 : (es.toList.map (·.key))[j]? = some (enc x.1) := by rw [hk, List.getElem?_map, h]; rfl
  have h2 : (es.toList.map (·.val))[j]? = some x.2 := by rw [hv, List.getElem?_map, h]; rfl
  rw [List.getElem?_map] at h1 h2
  cases he : es.toList[j]? with
  | none => rw [he] at h1; cases h1
  | some e => rw [he] at h1 h2; injection h1 with h1; injection h2 with h2; exact ⟨e, rfl, h1, h2⟩
omit [DecidableEq α] in
theorem ent_of {es : Array MapEntry} {kv : List (α × Value)} (hk : es.toList.map (·.key) = kv.map (fun x => enc x.1)) {j : Nat} {e : MapEntry} (h : es.toList[j]? = some e) :
    ∃ x, kv[j]? = some x ∧ e.key = enc x.1 := by
  have h1 : (kv.map (fun x => enc x.1))[j]? = some e.key := by rw [← hk, List.getElem?_map, h]; rfl
  rw [List.getElem?_map] at h1
  cases hx : kv[j]? with
  | none => rw [hx] at h1; cases h1
  | some x => rw [hx] at h1; injection h1 with h1; exact ⟨x, rfl, h1.symm⟩
theorem aget_idx {kv : List (α × Value)} {a : α} {v : Value} (h : aget kv a = some v) : ∃ j : Nat, kv[j]? = some (a, v) := by
  induction kv with
  | nil => cases h
  | cons x r ih =>
    simp only [aget] at h
    split at h
    · rename_i hx; injection h with h; exact ⟨0, by rw [← hx, ← h]; rfl⟩
    · obtain ⟨j, hj⟩ := ih h; exact ⟨j + 1, by simpa using hj⟩
/-- what the model's search finds -/
theorem find_map (K : Keys P kt enc) {es : Array MapEntry} (hk : es.toList.map (·.key) = kv.map (fun x => enc x.1)) (hv : es.toList.map (·.val) = kv.map (·.2)) (hn : (kv.map (·.1)).Nodup) (a : α) (w : World) :
    (aget kv a = none ∧ a ∉ kv.map (·.1) ∧ (Instr.findKey kt (enc a) es.toList).run P w = .ok none w) ∨
    ∃ j v e, aget kv a = some v ∧ kv[j]? = some (a, v) ∧ es.toList[j]? = some e ∧ e.key = enc a ∧ e.val = v ∧ (Instr.findKey kt (enc a) es.toList).run P w = .ok (some (j, v)) w := by
  cases ha : aget kv a with
  | none =>
    refine .inl ⟨rfl, (aget_none kv a).1 ha, K.none _ a w fun e he => ?_⟩
    obtain ⟨j, hj⟩ := List.mem_iff_getElem?.1 he
    obtain ⟨x, hx, hek⟩ := ent_of hk hj
    refine ⟨x.1, hek, fun e1 => (aget_none kv a).1 ha ?_⟩
    exact List.mem_map.2 ⟨x, List.mem_of_getElem? hx, e1⟩
  | some v =>
    obtain ⟨j, hj⟩ := aget_idx ha
    obtain ⟨e, he, h1, h2⟩ := ent_at hk hv hj
    refine .inr ⟨j, v, e, rfl, hj, he, h1, h2, ?_⟩
    have h2 : e.val = v := h2
    rw [← h2]
    refine K.some _ a j e w (fun e' he' => ?_) he h1 (fun i e' hi hk' => ?_)
    · obtain ⟨i, hi⟩ := List.mem_iff_getElem?.1 he'
      obtain ⟨x, _, hek⟩ := ent_of hk hi
      exact ⟨x.1, hek⟩
    · obtain ⟨x, hx, hek⟩ := ent_of hk hi
      have hxa : x.1 = a := K.inj _ _ (hek.symm.trans hk')
      have g1 : (kv.map (·.1))[i]? = some a := by rw [List.getElem?_map, hx]; simp [hxa]
      have g2 : (kv.map (·.1))[j]? = some a := by rw [List.getElem?_map, hj]; rfl
      have hlt : i < (kv.map (·.1)).length := (List.getElem?_eq_some_iff.1 g1).1
      exact (List.getElem?_inj hlt hn).1 (g1.trans g2.symm)
theorem MapAt.look (h : MapAt w enc b kv) (K : Keys P kt enc) (ht : P.underlying t = some (.map kt et)) {z : Value} (hz : (zeroValue et).run P w = .ok z w) (a : α) (c : Bool) :
    (Instr.lookup t (.map (some b)) (enc a) c).run P w = .ok (if c then .tuple #[(aget kv a).getD z, .bool (aget kv a).isSome] else (aget kv a).getD z) w := by
  obtain ⟨es, clock, hb, hk, hv, hn, _⟩ := h
  rcases find_map K hk hv hn a w with ⟨h1, _, h2⟩ | ⟨j, v, e, h1, _, _, _, _, h2⟩
  · simp [Instr.lookup, run_underlying ht, MapKept.run_getObj_map hb, K.check, h2, h1, hz, Result.andThen]
  · simp [Instr.lookup, run_underlying ht, MapKept.run_getObj_map hb, K.check, h2, h1, Result.andThen]
omit [DecidableEq α] in
theorem look_nil (K : Keys P kt enc) (ht : P.underlying t = some (.map kt et)) {z : Value} (hz : (zeroValue et).run P w = .ok z w) (a : α) (c : Bool) :
    (Instr.lookup t (.map none) (enc a) c).run P w = .ok (if c then .tuple #[z, .bool false] else z) w := by
  have h2 := K.none [] a w (by simp)
  simp [Instr.lookup, run_underlying ht, K.check, h2, hz, Result.andThen]
omit [DecidableEq α] in
theorem MapAt.len (h : MapAt w enc b kv) (ht : P.underlying t = some (.map kt et)) (ty : TypeId) : (Builtin.len_ #[t] ty #[.map (some b)]).run P w = .ok (.int .i64 kv.length) w := by
  obtain ⟨es, clock, hb, hk, hv, hn, _⟩ := h
  have : es.size = kv.length := by have := congrArg List.length hv; simpa using this
  simp [Builtin.len_, run_underlying ht, MapKept.run_getObj_map hb, goInt, Result.andThen, this]
theorem map_modify_key (es : Array MapEntry) (j : Nat) (k v : Value) (e : MapEntry) (he : es.toList[j]? = some e) (hk : e.key = k) :
    (es.modify j fun e => { e with key := k, val := v }).toList.map (·.key) = es.toList.map (·.key) ∧ (es.modify j fun e => { e with key := k, val := v }).toList.map (·.born) = es.toList.map (·.born) ∧
    (es.modify j fun e => { e with key := k, val := v }).toList.map (·.val) = (es.toList.map (·.val)).set j v := by
  refine ⟨?_, ?_, ?_⟩
  all_goals
    refine List.ext_getElem? fun i => ?_
    simp only [List.getElem?_map, Array.getElem?_toList, Array.getElem?_modify, List.getElem?_set, List.length_map, Array.length_toList]
    rw [Array.getElem?_toList] at he
  · by_cases hij : j = i
    · subst hij; simp [he, hk]
    · simp [hij]
  · by_cases hij : j = i
    · subst hij; simp [he]
    · simp [hij]
  · by_cases hij : j = i
    · subst hij; simp [(Array.getElem?_eq_some_iff.1 he).1]
    · simp [hij]
theorem aset_set {kv : List (α × Value)} {a : α} {v u : Value} {j : Nat} (hn : (kv.map (·.1)).Nodup) (hj : kv[j]? = some (a, u)) : aset kv a v = kv.set j (a, v) := by
  induction kv generalizing j with
  | nil => cases hj
  | cons x r ih =>
    simp only [List.map_cons, List.nodup_cons] at hn
    cases j with
    | zero => simp only [List.getElem?_cons_zero, Option.some.injEq] at hj; subst hj; simp [aset]
    | succ j =>
      have hj' : r[j]? = some (a, u) := by simpa using hj
      have hne : x.1 ≠ a := fun e => hn.1 (by rw [e]; exact List.mem_map.2 ⟨(a, u), List.mem_of_getElem? hj', rfl⟩)
      simp only [aset, if_neg hne, List.set_cons_succ]
      rw [ih hn.2 hj']
theorem aset_new {kv : List (α × Value)} {a : α} {v : Value} (h : a ∉ kv.map (·.1)) : aset kv a v = kv ++ [(a, v)] := by
  induction kv with
  | nil => rfl
  | cons x r ih =>
    simp only [List.map_cons, List.mem_cons, not_or] at h
    have hne : x.1 ≠ a := fun e => h.1 e.symm
    simp only [aset, if_neg hne, ih h.2, List.cons_append]
omit [DecidableEq α] in
theorem ch_setBlock (w : World) (b : Nat) (o : Obj) {es : Array MapEntry} {clock : Nat} (hb : w.heap[b]? = some (.map es clock)) : Ch [b] w (setBlock w b o) :=
  ⟨rfl, rfl, rfl, by simp [setBlock], fun i _ hi => heap_setBlock_other hb _ (fun e => hi (by rw [e]; simp))⟩
theorem MapAt.upd (h : MapAt w enc b kv) (K : Keys P kt enc) (ht : P.underlying t = some (.map kt et)) (a : α) (v : Value) :
    ∃ w', (Instr.mapUpdate t (.map (some b)) (enc a) v).run P w = .ok () w' ∧ MapAt w' enc b (aset kv a v) ∧ Ch [b] w w' ∧ w'.heap.size = w.heap.size := by
  have hnd := nodup_aset kv a v h.nodup
  obtain ⟨es, clock, hb, hk, hv, hn, hbo, hbn⟩ := h
  rcases find_map K hk hv hn a w with ⟨h1, h1n, h2⟩ | ⟨j, u, e, h1, hj, hej, hek, hev, h2⟩
  · refine ⟨setBlock w b (.map (es.push { key := enc a, val := v, born := clock }) (clock + 1)), ?_, ?_, ch_setBlock w b _ hb, by simp [setBlock]⟩
    · simp [Instr.mapUpdate, run_underlying ht, MapKept.run_getObj_map hb, K.check, h2, Result.andThen, MapKept.run_setObj_map _ hb]
      rfl
    · refine ⟨_, _, heap_setBlock_same hb _, ?_, ?_, hnd, ?_, ?_⟩
      · rw [aset_new h1n]; simp [hk]
      · rw [aset_new h1n]; simp [hv]
      · intro x hx
        simp only [Array.toList_push, List.mem_append, List.mem_singleton] at hx
        rcases hx with hx | hx
        · have := hbo x hx; omega
        · subst hx; simp
      · simp only [Array.toList_push, List.map_append, List.map_cons, List.map_nil]
        rw [List.nodup_append]
        exact ⟨hbn, by simp, fun x hx y hy e => by
          simp at hy; subst hy; subst e
          obtain ⟨z, hz, hzb⟩ := List.mem_map.1 hx
          have := hbo z hz; omega⟩
  · have hm := map_modify_key es j (enc a) v e hej hek
    refine ⟨setBlock w b (.map (es.modify j fun e => { e with key := enc a, val := v }) clock), ?_, ?_, ch_setBlock w b _ hb, by simp [setBlock]⟩
    · have hes : es[j]? = some e := by rw [← Array.getElem?_toList]; exact hej
      simp [Instr.mapUpdate, run_underlying ht, MapKept.run_getObj_map hb, K.check, h2, Result.andThen, MapKept.run_setObj_map _ hb, hes, hek, K.stays]
      rfl
    · refine ⟨_, _, heap_setBlock_same hb _, ?_, ?_, hnd, ?_, ?_⟩
      · rw [hm.1, hk, aset_set hn hj]
        refine List.ext_getElem? fun i => ?_
        simp only [List.getElem?_map, List.getElem?_set]
        by_cases hij : j = i
        · subst hij
          obtain ⟨h3, h4⟩ := List.getElem?_eq_some_iff.1 hj
          simp [h3, h4]
        · simp [hij]
      · rw [hm.2.2, hv, aset_set hn hj, List.map_set]
      · intro x hx
        have : x.born ∈ (es.modify j fun e => { e with key := enc a, val := v }).toList.map (·.born) := List.mem_map.2 ⟨x, hx, rfl⟩
        rw [hm.2.1] at this
        obtain ⟨y, hy, hyb⟩ := List.mem_map.1 this
        have := hbo y hy; omega
      · rw [hm.2.1]; exact hbn
omit [DecidableEq α] in
theorem map_erase {β γ : Type} (f : β → γ) : ∀ (l : List β) (j : Nat), (l.eraseIdx j).map f = (l.map f).eraseIdx j
  | [], _ => by simp
  | _ :: _, 0 => by simp
  | x :: l, j + 1 => by simp [map_erase f l j]
theorem adel_idx {kv : List (α × Value)} {a : α} {u : Value} {j : Nat} (hn : (kv.map (·.1)).Nodup) (hj : kv[j]? = some (a, u)) : adel kv a = kv.eraseIdx j := by
  induction kv generalizing j with
  | nil => cases hj
  | cons x r ih =>
    simp only [List.map_cons, List.nodup_cons] at hn
    cases j with
    | zero => simp only [List.getElem?_cons_zero, Option.some.injEq] at hj; subst hj; simp [adel]
    | succ j =>
      have hj' : r[j]? = some (a, u) := by simpa using hj
      have hne : x.1 ≠ a := fun e => hn.1 (by rw [e]; exact List.mem_map.2 ⟨(a, u), List.mem_of_getElem? hj', rfl⟩)
      simp only [adel, if_neg hne, List.eraseIdx_cons_succ]
      rw [ih hn.2 hj']
theorem adel_none {kv : List (α × Value)} {a : α} (h : a ∉ kv.map (·.1)) : adel kv a = kv := by
  induction kv with
  | nil => rfl
  | cons x r ih =>
    simp only [List.map_cons, List.mem_cons, not_or] at h
    have hne : x.1 ≠ a := fun e => h.1 e.symm
    simp only [adel, if_neg hne, ih h.2]
theorem nodup_adel {kv : List (α × Value)} {a : α} (h : (kv.map (·.1)).Nodup) : ((adel kv a).map (·.1)).Nodup := h.sublist ((sub_adel kv a).map _)
theorem MapAt.del (h : MapAt w enc b kv) (K : Keys P kt enc) (ht : P.underlying t = some (.map kt et)) (a : α) (ty : TypeId) :
    ∃ w', (Builtin.delete_ #[t, kt] ty #[.map (some b), enc a]).run P w = .ok (.tuple #[]) w' ∧ MapAt w' enc b (adel kv a) ∧ Ch [b] w w' ∧ w'.heap.size = w.heap.size := by
  have hnd := nodup_adel (a := a) h.nodup
  obtain ⟨es, clock, hb, hk, hv, hn, hbo, hbn⟩ := h
  rcases find_map K hk hv hn a w with ⟨h1, h1n, h2⟩ | ⟨j, u, e, h1, hj, hej, hek, hev, h2⟩
  · refine ⟨setBlock w b (.map es clock), ?_, ⟨es, clock, heap_setBlock_same hb _, ?_, ?_, hnd, hbo, hbn⟩, ch_setBlock w b _ hb, by simp [setBlock]⟩
    · simp [Builtin.delete_, run_underlying ht, MapKept.run_getObj_map hb, K.check, h2, Result.andThen, MapKept.run_setObj_map _ hb]
      rfl
    · rw [adel_none h1n]; exact hk
    · rw [adel_none h1n]; exact hv
  · refine ⟨setBlock w b (.map (es.eraseIdxIfInBounds j) clock), ?_, ⟨_, _, heap_setBlock_same hb _, ?_, ?_, hnd, ?_, ?_⟩, ch_setBlock w b _ hb, by simp [setBlock]⟩
    · simp [Builtin.delete_, run_underlying ht, MapKept.run_getObj_map hb, K.check, h2, Result.andThen, MapKept.run_setObj_map _ hb]
      rfl
    all_goals have herase : (es.eraseIdxIfInBounds j).toList = es.toList.eraseIdx j := by simp
    all_goals rw [herase]
    · rw [adel_idx hn hj, map_erase, map_erase, hk]
    · rw [adel_idx hn hj, map_erase, map_erase, hv]
    · intro x hx; exact hbo x (List.mem_of_mem_eraseIdx hx)
    · rw [map_erase]; exact hbn.sublist (List.eraseIdx_sublist _ _)

variable {ops : Array Oper} {rest : List Oper} {o : Oper} {act : Act} {Q : Exit → Act → World → Prop}
theorem wpl_upd (hg : o.guard = none) (m x v : Operand) (t : TypeId) (hop : o.op = Op.mapUpdate t m x v) (K : Keys P kt enc) (ht : P.underlying t = some (.map kt et))
    (hm : act.eval m = .map (some b)) (h : MapAt w enc b kv) (a : α) (hx : act.eval x = enc a) {val : Value} (hv : act.eval v = val)
    (hK : ∀ w', MapAt w' enc b (aset kv a val) → Ch [b] w w' → w'.heap.size = w.heap.size → wpList P ops Q rest (act.put o.dst undef) w') : wpList P ops Q (o :: rest) act w := by
  refine wpList_plain hg fun K' hK' => ?_
  obtain ⟨w', hrun, r1, r2, r3⟩ := h.upd K ht a val
  unfold Oper.wp
  simp [execOp, hop, hm, hx, hv, hrun, Result.andThen]
  exact hK' _ _ (hK w' r1 r2 r3)
theorem wpl_look (hg : o.guard = none) (m x : Operand) (t : TypeId) (c : Bool) (hop : o.op = Op.lookup t m x c) (K : Keys P kt enc) (ht : P.underlying t = some (.map kt et)) {z : Value} (hz : (zeroValue et).run P w = .ok z w)
    (hm : act.eval m = .map (some b)) (h : MapAt w enc b kv) (a : α) (hx : act.eval x = enc a)
    (hK : wpList P ops Q rest (act.put o.dst (if c then .tuple #[(aget kv a).getD z, .bool (aget kv a).isSome] else (aget kv a).getD z)) w) : wpList P ops Q (o :: rest) act w := by
  refine wpList_plain hg fun K' hK' => ?_
  have hrun := h.look K ht hz a c
  unfold Oper.wp
  simp [execOp, hop, hm, hx, hrun, Result.andThen]
  exact hK' _ _ hK
theorem wpl_del (hg : o.guard = none) (m x : Operand) (t kt : TypeId) (hop : o.op = Op.call { callee := Callee.builtin Builtin.delete, args := #[m, x], argTypes := #[t, kt] }) (K : Keys P kt enc) (ht : P.underlying t = some (.map kt et))
    (hm : act.eval m = .map (some b)) (h : MapAt w enc b kv) (a : α) (hx : act.eval x = enc a)
    (hK : ∀ w', MapAt w' enc b (adel kv a) → Ch [b] w w' → w'.heap.size = w.heap.size → wpList P ops Q rest (act.put o.dst (.tuple #[])) w') : wpList P ops Q (o :: rest) act w := by
  refine wpList_plain hg fun K' hK' => ?_
  obtain ⟨w', hrun, r1, r2, r3⟩ := h.del K ht a o.type
  unfold Oper.wp
  simp [execOp, hop, resolve, invoke, builtin, hm, hx, hrun, Result.andThen]
  exact hK' _ _ (hK w' r1 r2 r3)
omit [DecidableEq α] in
theorem wpl_len (hg : o.guard = none) (m : Operand) (t : TypeId) (hop : o.op = Op.call { callee := Callee.builtin Builtin.len, args := #[m], argTypes := #[t] }) (ht : P.underlying t = some (.map kt et))
    (hm : act.eval m = .map (some b)) (h : MapAt w enc b kv) (hK : wpList P ops Q rest (act.put o.dst (.int .i64 kv.length)) w) : wpList P ops Q (o :: rest) act w := by
  refine wpList_plain hg fun K' hK' => ?_
  unfold Oper.wp
  simp [execOp, hop, resolve, invoke, builtin, hm, h.len ht o.type, Result.andThen]
  exact hK' _ _ hK
end

/-! ### a new row -/
theorem Own.empty_ (w : World) (base : Nat) (e : TypeId) (k : Nat) (hb : base ≤ w.heap.size) : Own (w.alloc (.cells #[] e)) base e k (.slice (some ⟨w.heap.size, 0, none⟩) 0 0) [] :=
  ⟨⟨by simp, .inr ⟨w.heap.size, 0, #[], rfl, hb, heap_alloc_new w _, Nat.le_refl _, Nat.zero_le _, by simp, by simp⟩⟩, by simp⟩
theorem Own.one_ (w : World) (base : Nat) (e : TypeId) (k : Nat) (cs : List Value) (hb : base ≤ w.heap.size) (hk : cs.length = k) (h1 : ∀ u ∈ cs, u.oneCell' = true) : Own (w.alloc (.cells cs.toArray e)) base e k (.slice (some ⟨w.heap.size, 0, none⟩) 1 1) [cs] :=
  ⟨⟨by simp [hk], .inr ⟨w.heap.size, 1, cs.toArray, rfl, hb, heap_alloc_new w _, Nat.le_refl _, by decide, by simp [hk], by simp [← hk]⟩⟩, by simpa [hk] using h1⟩
theorem Own.ch0' {w w' : World} {base k : Nat} {e : TypeId} {v : Value} {css : List (List Value)} (h : Own w base e k v css) (hc : Ch [] w w') : Own w' base e k v css := h.ch hc (by simp)
end Go.Proofs.YtlficnfkekggjaaGreatDoor
