
/-
  The contract of strata.distances.
-/
import Derived.Test.YtgljjapglgcpdaaGreatDoorStrPlain
import Derived.Test.YtgljjapglgcpdaaGreatDoorStep
import Derived.Test.YtgljjapglgcpdaaGreatDoorLex
namespace Go.Proofs.YtgljjapglgcpdaaGreatDoor
open Go.RowKit Go.MapKept

theorem mI : Tryz.prog.underlying 96 = some (.map 9 3) := Tryz.underlying96
theorem zI (w : World) : (zeroValue 3).run Tryz.prog w = .ok (.int .i64 0) w := Tryz.zeroValue3 w
theorem look_i {w : World} {B : Nat} {kv : List (ByteArray × Value)} (h : MapAt w encB B kv) (s : ByteArray) : (Instr.lookup 96 (.map (some B)) (.string s) false).run Tryz.prog w = .ok ((aget kv s).getD (.int .i64 0)) w := by
  have := h.look kS mI (zI w) s false
  simpa [encB] using this
theorem look_i2 {w : World} {B : Nat} {kv : List (ByteArray × Value)} (h : MapAt w encB B kv) (s : ByteArray) : (Instr.lookup 96 (.map (some B)) (.string s) true).run Tryz.prog w = .ok (.tuple #[(aget kv s).getD (.int .i64 0), .bool (aget kv s).isSome]) w := by
  have := h.look kS mI (zI w) s true
  simpa [encB] using this
theorem upd_i {w : World} {B : Nat} {kv : List (ByteArray × Value)} (h : MapAt w encB B kv) (s : ByteArray) (v : Value) :
    ∃ w', (Instr.mapUpdate 96 (.map (some B)) (.string s) v).run Tryz.prog w = .ok () w' ∧ MapAt w' encB B (aset kv s v) ∧ Ch [B] w w' ∧ w'.heap.size = w.heap.size := h.upd kS mI s v

/-- distances up to n -/
noncomputable def near (es : List Ed) (to : ByteArray) (n : Nat) (s : ByteArray) : Option Nat := match dst es s to with
  | some d => if d ≤ n then some d else none
  | none => none
def encN : Option Nat → Option Value := Option.map fun d => .int .i64 (d : Int)
/-- who is met at distance n + 1 -/
noncomputable def mets (es : List Ed) (to : ByteArray) (n : Nat) (l : List Ed) : List ByteArray := (l.filter fun e => decide (dst es e.t to = some n ∧ near es to n e.f = none)).map (·.f)
section
variable {es : List Ed} {to s : ByteArray} {n : Nat}
theorem near_some {d : Nat} : near es to n s = some d ↔ dst es s to = some d ∧ d ≤ n := by
  unfold near
  cases dst es s to with
  | none => simp
  | some m =>
    simp only [Option.some.injEq]
    split
    · simp only [Option.some.injEq]; constructor
      · rintro rfl; exact ⟨rfl, by assumption⟩
      · rintro ⟨h, _⟩; exact h
    · simp only [reduceCtorEq, false_iff]; rintro ⟨rfl, h⟩; contradiction
theorem near_zero : near es to 0 s = if s = to then some 0 else none := by
  by_cases h : s = to
  · rw [if_pos h, near_some]; exact ⟨dst_zero.2 h, Nat.le_refl _⟩
  · rw [if_neg h]
    cases hn : near es to 0 s with
    | none => rfl
    | some d =>
      obtain ⟨h1, h2⟩ := near_some.1 hn
      have : d = 0 := by omega
      subst this
      exact absurd (dst_zero.1 h1) h
theorem mets_snoc (l : List Ed) (k : Nat) (h : k < l.length) : mets es to n (l.take (k + 1)) = if dst es l[k].t to = some n ∧ near es to n l[k].f = none then mets es to n (l.take k) ++ [l[k].f] else mets es to n (l.take k) := by
  simp only [mets, take_snoc l k h, List.filter_append, List.map_append, List.filter_cons, List.filter_nil, decide_eq_true_eq]
  split <;> simp
theorem mets_len (l : List Ed) : (mets es to n l).length ≤ l.length := by
  simp only [mets, List.length_map]; exact List.length_filter_le _ _
theorem mem_mets : s ∈ mets es to n es ↔ dst es s to = some (n + 1) := by
  simp only [mets, List.mem_map, List.mem_filter, decide_eq_true_eq]
  constructor
  · rintro ⟨e, ⟨h1, h2, h3⟩, rfl⟩
    obtain ⟨m, h4, h5⟩ := dst_step h1 h2
    have : ¬ m ≤ n := fun h => by rw [near_some.2 ⟨h4, h⟩] at h3; cases h3
    rw [h4]; congr 1; omega
  · intro h
    obtain ⟨e, h1, h2, h3⟩ := dst_pred h
    refine ⟨e, ⟨h1, h3, ?_⟩, h2⟩
    cases hn : near es to n e.f with
    | none => rfl
    | some d =>
      obtain ⟨h4, h5⟩ := near_some.1 hn
      rw [h2, h] at h4
      injection h4 with h4
      omega
theorem near_succ : near es to (n + 1) s = if s ∈ mets es to n es then some (n + 1) else near es to n s := by
  split
  · rename_i h
    exact near_some.2 ⟨mem_mets.1 h, Nat.le_refl _⟩
  · rename_i h
    unfold near
    cases hd : dst es s to with
    | none => rfl
    | some d =>
      have : d ≠ n + 1 := fun e => h (mem_mets.2 (by rw [hd, e]))
      by_cases h1 : d ≤ n
      · simp only [if_pos h1]; rw [if_pos (by omega)]
      · simp only [if_neg h1]; rw [if_neg (by omega)]
theorem near_all (h : mets es to n es = []) : near es to n s = dst es s to := by
  have hg : ∀ a, dst es a to ≠ some (n + 1) := fun a ha => by
    have := mem_mets.2 ha
    rw [h] at this; cases this
  unfold near
  cases hd : dst es s to with
  | none => rfl
  | some d => simp only; rw [if_pos (dst_gap hg d s hd)]
end
/-- a map that holds distances -/
structure DisKv (es : List Ed) (kv : List (ByteArray × Value)) (to : ByteArray) (g : ByteArray → Option Nat) : Prop where
  vals : ∀ s, aget kv s = encN (g s)
  keys : ∀ s ∈ kv.map (·.1), s = to ∨ ∃ e ∈ es, e.f = s
theorem DisKv.len {es : List Ed} {kv : List (ByteArray × Value)} {to : ByteArray} {g : ByteArray → Option Nat} (h : DisKv es kv to g) (hn : (kv.map (·.1)).Nodup) : kv.length ≤ es.length + 1 := by
  have := nodup_len hn (m := to :: es.map (·.f)) (fun s hs => by
    rcases h.keys s hs with rfl | ⟨e, he, rfl⟩
    · simp
    · exact List.mem_cons_of_mem _ (List.mem_map.2 ⟨e, he, rfl⟩))
  simpa using this
/-- how many entries a map has -/
def lenM (w : World) (b : Nat) : Nat := match w.heap[b]? with
  | some (.map es _) => es.size
  | _ => 0
theorem MapAt.lenM {w : World} {b : Nat} {kv : List (ByteArray × Value)} (h : MapAt w encB b kv) : lenM w b = kv.length := by
  obtain ⟨es, clock, hb, hk, _⟩ := h
  have := congrArg List.length hk
  simp only [Proofs.YtgljjapglgcpdaaGreatDoor.lenM, hb]
  simpa using this
theorem aset_len {kv : List (ByteArray × Value)} (a : ByteArray) (v : Value) : (aset kv a v).length = if a ∈ kv.map (·.1) then kv.length else kv.length + 1 := by
  have h1 := congrArg List.length (keys_aset kv a v)
  rw [List.length_map] at h1
  rw [h1]
  split <;> simp

end Go.Proofs.YtgljjapglgcpdaaGreatDoor
