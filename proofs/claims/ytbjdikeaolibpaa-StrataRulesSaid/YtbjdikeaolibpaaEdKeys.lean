/-
  Edges as keys of a map.
-/
import Derived.Test.YtbjdikeaolibpaaIter
import Derived.Test.YtbjdikeaolibpaaFacts
namespace Go.Proofs.Ytbjdikeaolibpaa
open Go.RowKit

def encE (e : Ed) : Value := .agg e.enc.toArray
theorem run_equal_ed (a b : Ed) (w : World) : (Op.equal 65 (encE a) (encE b)).run Try.prog w = .ok (decide (a = b)) w := by
  rw [← edB_eq]
  simp [Op.equal, Op.maxDepth, encE, Ed.enc, run_equalIn_ed 9998]
theorem find_ed : ∀ (es : List MapEntry) (a : Ed) (w : World) (i : Nat), (∀ e ∈ es, ∃ b, e.key = encE b) →
    (∀ e ∈ es, e.key ≠ encE a) ∧ (Instr.findAsking 65 (encE a) es i).run Try.prog w = .ok none w ∨
    ∃ j e, es[j]? = some e ∧ e.key = encE a ∧ (Instr.findAsking 65 (encE a) es i).run Try.prog w = .ok (some (i + j, e.val)) w
  | [], a, w, i, _ => .inl ⟨by simp, by simp [Instr.findAsking]⟩
  | e :: es, a, w, i, h => by
    obtain ⟨b, hb⟩ := h e (by simp)
    have hinj : ∀ x y : Ed, encE x = encE y → x = y := by
      intro x y hxy
      cases x; cases y
      simp [encE, Ed.enc] at hxy
      simp [hxy]
    by_cases hab : a = b
    · refine .inr ⟨0, e, rfl, by rw [hb, hab], ?_⟩
      simp [Instr.findAsking, hb, run_equal_ed, hab, Result.andThen]
    · have hrun : (Instr.findAsking 65 (encE a) (e :: es) i).run Try.prog w = (Instr.findAsking 65 (encE a) es (i + 1)).run Try.prog w := by
        simp [Instr.findAsking, hb, run_equal_ed, hab, Result.andThen]
      rcases find_ed es a w (i + 1) (fun x hx => h x (by simp [hx])) with ⟨h1, h2⟩ | ⟨j, e', h1, h2, h3⟩
      · refine .inl ⟨fun x hx => ?_, by rw [hrun, h2]⟩
        rcases List.mem_cons.1 hx with rfl | hx
        · rw [hb]; exact fun e1 => hab (hinj _ _ e1).symm
        · exact h1 x hx
      · exact .inr ⟨j + 1, e', by simpa using h1, h2, by rw [hrun, h3, show i + 1 + j = i + (j + 1) from by omega]⟩
theorem check_s (em : Bool) (n : Nat) (s : ByteArray) (w : World) : (Instr.checkKey em (n + 1) 9 (.string s)).run Try.prog w = .ok () w := MapKept.run_checkKey (k := .string s) Try.underlying9 trivial em n
theorem check_b (em : Bool) (n : Nat) (s : Bool) (w : World) : (Instr.checkKey em (n + 1) 4 (.bool s)).run Try.prog w = .ok () w := MapKept.run_checkKey (k := .bool s) Try.underlying4 trivial em n
theorem check_ed (em : Bool) (n : Nat) (a : Ed) (w : World) : (Instr.checkKey em (n + 2) 65 (encE a)).run Try.prog w = .ok () w := by
  rw [show n + 2 = (n + 1) + 1 from rfl, Instr.checkKey]
  simp only [Sem.run_bind, run_underlying Try.underlying65, Result.andThen_ok, encE, Ed.enc]
  rw [← Array.forIn_toList]
  have h1 := check_s em n
  have h2 := check_b em n
  have p0 : ∀ w, (part 9 #[Value.string a.f, Value.string a.t, Value.bool a.n] 0).run Try.prog w = .ok (.string a.f) w := fun w => by go_simp
  have p1 : ∀ w, (part 9 #[Value.string a.f, Value.string a.t, Value.bool a.n] 1).run Try.prog w = .ok (.string a.t) w := fun w => by go_simp
  have p2 : ∀ w, (part 4 #[Value.string a.f, Value.string a.t, Value.bool a.n] 2).run Try.prog w = .ok (.bool a.n) w := fun w => by go_simp
  simp [Sem.run_bind, h1, h2, p0, p1, p2, Result.andThen]
theorem run_findKey_ed (es : List MapEntry) (a : Ed) (w : World) : (Instr.findKey 65 (encE a) es).run Try.prog w = (Instr.findAsking 65 (encE a) es 0).run Try.prog w := by
  cases es with
  | nil => simp [Instr.findKey, run_underlying Try.underlying65, Instr.findNow, Instr.findAsking, Result.andThen]
  | cons e es => simp [Instr.findKey, run_underlying Try.underlying65, Instr.findNow, Instr.sameNow, Result.andThen]
theorem edKeys : Keys Try.prog 65 encE where
  inj x y hxy := by
    cases x; cases y
    simp [encE, Ed.enc] at hxy
    simp [hxy]
  check em a w := check_ed em 9998 a w
  none es a w hes := by
    rw [run_findKey_ed]
    rcases find_ed es a w 0 (fun e he => by obtain ⟨b, hb, _⟩ := hes e he; exact ⟨b, hb⟩) with ⟨_, h⟩ | ⟨j, e, h1, h2, _⟩
    · exact h
    · obtain ⟨b, hb, hne⟩ := hes e (List.mem_of_getElem? h1)
      refine absurd ?_ hne
      rw [hb] at h2
      cases a; cases b
      simp [encE, Ed.enc] at h2
      simp [h2]
  some es a j e w hes hj he hfirst := by
    rw [run_findKey_ed]
    rcases find_ed es a w 0 hes with ⟨h, _⟩ | ⟨j', e', h1, h2, h3⟩
    · exact absurd he (h e (List.mem_of_getElem? hj))
    · have hjj : j' = j := hfirst j' e' h1 h2
      subst hjj
      rw [h1] at hj
      injection hj with hj
      subst hj
      rw [h3]; simp
  stays a w := by
    have : Instr.sameBits 10000 (encE a) (encE a) = true := by
      show Instr.sameBits (9999 + 1) (.agg a.enc.toArray) (.agg a.enc.toArray) = true
      have hs : ∀ (s : ByteArray), (s == s) = true := fun s => by rw [beq_toListBytes]; simp
      simp [Instr.sameBits, Ed.enc]
    simp [Instr.keyThatStays, this]
end Go.Proofs.Ytbjdikeaolibpaa
