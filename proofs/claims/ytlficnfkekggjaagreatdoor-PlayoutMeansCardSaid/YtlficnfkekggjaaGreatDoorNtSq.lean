
/-
  The integer square root, the number of binary digits, and the score of treesearch, as plain functions. No program is in sight here.
-/
import Derived.Test.YtlficnfkekggjaaGreatDoorSpec
namespace Go.Proofs.YtlficnfkekggjaaGreatDoor

section
/-- k is the integer square root of n -/
def IsRt (n k : Nat) : Prop := k * k ≤ n ∧ n < (k + 1) * (k + 1)
theorem IsRt.uniq {n a b : Nat} (h1 : IsRt n a) (h2 : IsRt n b) : a = b := by
  rcases Nat.lt_trichotomy a b with h | h | h
  · have := Nat.mul_le_mul (show a + 1 ≤ b from h) (show a + 1 ≤ b from h)
    have := h1.2; have := h2.1; omega
  · exact h
  · have := Nat.mul_le_mul (show b + 1 ≤ a from h) (show b + 1 ≤ a from h)
    have := h2.2; have := h1.1; omega
theorem IsRt.mono {n m a b : Nat} (h1 : IsRt n a) (h2 : IsRt m b) (h : n ≤ m) : a ≤ b := by
  rcases Nat.lt_or_ge b a with hl | hl
  · have := Nat.mul_le_mul (show b + 1 ≤ a from hl) (show b + 1 ≤ a from hl)
    have := h2.2; have := h1.1; omega
  · exact hl
/-- by halving steps, as the reference goes -/
def rtGo (n : Nat) : Nat → Nat → Nat
  | 0, k => k
  | f + 1, k => rtGo n f (if (k + 2 ^ f) * (k + 2 ^ f) ≤ n then k + 2 ^ f else k)
theorem rtGo_is (n : Nat) : ∀ (f k : Nat), k * k ≤ n → n < (k + 2 ^ f) * (k + 2 ^ f) → IsRt n (rtGo n f k)
  | 0, k, h1, h2 => by simpa [rtGo, IsRt] using ⟨h1, h2⟩
  | f + 1, k, h1, h2 => by
    unfold rtGo
    rw [Nat.pow_succ] at h2
    split
    · rename_i h
      exact rtGo_is n f _ h (by rw [show k + 2 ^ f + 2 ^ f = k + 2 ^ f * 2 by omega]; exact h2)
    · rename_i h
      exact rtGo_is n f k h1 (by omega)
def rt (n : Nat) : Nat := rtGo n 17 0
theorem rt_is {n : Nat} (h : n < 17179869184) : IsRt n (rt n) := rtGo_is n 17 0 (Nat.zero_le _) (by simpa using h)
/-- Newton's step does not fall below the root -/
theorem newton_ge {n r x : Nat} (h : IsRt n r) (hx : 1 ≤ x) : r ≤ (x + n / x) / 2 := by
  have key : 2 * r ≤ x + n / x := by
    rcases Nat.lt_or_ge (2 * r) x with h1 | h1
    · exact Nat.le_trans (Nat.le_of_lt h1) (Nat.le_add_right _ _)
    · obtain ⟨d, hd⟩ : ∃ d, 2 * r = x + d := ⟨2 * r - x, by omega⟩
      have : d ≤ n / x := by
        rw [Nat.le_div_iff_mul_le hx]
        have h2 : d * x ≤ r * r := by
          rcases Nat.le_total d r with h3 | h3
          · obtain ⟨e, he⟩ : ∃ e, r = d + e := ⟨r - d, by omega⟩
            have : x = d + 2 * e := by omega
            subst this he
            rw [Nat.mul_add, Nat.add_mul, Nat.mul_add d d e, Nat.mul_add e d e]
            have := Nat.mul_comm d e
            have : d * (2 * e) = 2 * (d * e) := by rw [← Nat.mul_assoc, Nat.mul_comm d 2, Nat.mul_assoc]
            omega
          · obtain ⟨e, he⟩ : ∃ e, d = r + e := ⟨d - r, by omega⟩
            have : r = x + e := by omega
            subst this he
            have e1 : (x + e) * (x + e) = x * x + x * e + (e * x + e * e) := by rw [Nat.add_mul, Nat.mul_add, Nat.mul_add]
            have e2 : (x + e + e) * x = x * x + e * x + e * x := by rw [Nat.add_mul, Nat.add_mul]
            have := Nat.mul_comm x e
            rw [e1, e2]
            omega
        exact Nat.le_trans h2 h.1
      omega
  omega
theorem newton_stop {n r x : Nat} (h : IsRt n r) (hx : 1 ≤ x) (hr : r ≤ x) (hs : ¬ (x + n / x) / 2 < x) : x = r := by
  have h1 : x ≤ n / x := by omega
  have h2 : x * x ≤ n := (Nat.le_div_iff_mul_le hx).1 h1
  rcases Nat.lt_or_ge r x with h3 | h3
  · have := Nat.mul_le_mul (show r + 1 ≤ x from h3) (show r + 1 ≤ x from h3)
    have := h.2; omega
  · omega
/-- the number of binary digits -/
def bitsGo : Nat → Nat → Nat
  | 0, _ => 0
  | f + 1, n => if n = 0 then 0 else bitsGo f (n / 2) + 1
def bitsN (n : Nat) : Nat := bitsGo 64 n
theorem bitsGo_mono : ∀ (f n m : Nat), n ≤ m → bitsGo f n ≤ bitsGo f m
  | 0, _, _, _ => Nat.le_refl _
  | f + 1, n, m, h => by
    unfold bitsGo
    split
    · exact Nat.zero_le _
    · rw [if_neg (by omega)]
      have := bitsGo_mono f (n / 2) (m / 2) (Nat.div_le_div_right h)
      omega
theorem bitsGo_le : ∀ (f n : Nat), bitsGo f n ≤ f
  | 0, _ => Nat.le_refl _
  | f + 1, n => by
    unfold bitsGo
    split
    · omega
    · have := bitsGo_le f (n / 2); omega
def scoreN (t v p : Nat) : Nat := 10 * t / v + rt (2000000 * bitsN p / v)
theorem score_arg (p v : Nat) : 2000000 * bitsN p / v < 17179869184 := by
  have h1 : bitsN p ≤ 64 := bitsGo_le 64 p
  have h2 : 2000000 * bitsN p / v ≤ 2000000 * bitsN p := Nat.div_le_self _ _
  omega
theorem score_total {t d v p : Nat} : scoreN t v p ≤ scoreN (t + d) v p := by
  unfold scoreN
  have := Nat.div_le_div_right (c := v) (show 10 * t ≤ 10 * (t + d) by omega)
  omega
theorem score_parent {t d v p : Nat} : scoreN t v p ≤ scoreN t v (p + d) := by
  unfold scoreN
  have h1 : bitsN p ≤ bitsN (p + d) := bitsGo_mono 64 _ _ (by omega)
  have h2 := Nat.div_le_div_right (c := v) (Nat.mul_le_mul_left 2000000 h1)
  have := (rt_is (score_arg p v)).mono (rt_is (score_arg (p + d) v)) h2
  omega
end
end Go.Proofs.YtlficnfkekggjaaGreatDoor
