/-
  What the program's functions compute, as plain data: each from its tree.
-/
import Derived.Test.YtnglgoloeabbeaaXsK
import Derived.Test.YtnglgoloeabbeaaPA
namespace Go.Sx
open Go
set_option linter.unusedSimpArgs false
set_option linter.unusedVariables false


/-- Is it in the range? -/
def fixOk (x : Int) : Bool := decide (-2147483647 ≤ x ∧ x ≤ 2147483647)
theorem fixOk_of {x : Int} (h : -2147483647 ≤ x ∧ x ≤ 2147483647) : fixOk x = true := by
  unfold fixOk
  exact decide_eq_true h
theorem fixOk_iff {x : Int} : fixOk x = true ↔ (-2147483647 ≤ x ∧ x ≤ 2147483647) := by unfold fixOk; exact decide_eq_true_iff
@[simp] theorem L_s_l1In {a lo hi : Int} : Pr s_l1In [.int a, .int lo, .int hi] ∧ G s_l1In [.int a, .int lo, .int hi] = [.bool (decide (lo ≤ a ∧ a ≤ hi))] :=
  g_s_l1In (Q := fun o => o = _) (by
    unfold t_s_l1In
    by_cases h : lo ≤ a <;> simp [h])

/-- How many numbers an operation has. -/
def opSize (k i o : Int) : Int := if ¬ (1 ≤ i ∧ i ≤ 6) ∨ ¬ (1 ≤ o ∧ o ≤ 6) then 0 else if k = 1 ∨ k = 5 then i * o else if k = 2 then i else if k = 4 then 1 else 0
theorem mul36 {i o : Int} (h1 : 1 ≤ i ∧ i ≤ 6) (h2 : 1 ≤ o ∧ o ≤ 6) : 1 ≤ i * o ∧ i * o ≤ 36 := by
  have h3 : i * o ≤ 6 * 6 := Int.mul_le_mul h1.2 h2.2 (by omega) (by omega)
  have h4 : 1 * 1 ≤ i * o := Int.mul_le_mul h1.1 h2.1 (by omega) (by omega)
  omega

@[simp] theorem L_s_OpSize {k i o : Int} {p : D} : Pr s_OpSize [.int k, .int i, .int o, p] ∧ G s_OpSize [.int k, .int i, .int o, p] = [.int (opSize k i o)] :=
  g_s_OpSize (Q := fun o => o = _) (by
    unfold t_s_OpSize opSize
    by_cases h1 : 1 ≤ i ∧ i ≤ 6
    · by_cases h2 : 1 ≤ o ∧ o ≤ 6
      · have := mul36 h1 h2
        have hw : IntKind.wrap .i64 (i * o) = i * o := w64 (by omega) (by omega)
        by_cases k1 : k = 1
        · simp [h1, h2, k1, hw]
        · by_cases k5 : k = 5
          · simp [h1, h2, k5, hw]
          · by_cases k2 : k = 2
            · simp [h1, h2, k2]
            · by_cases k4 : k = 4 <;> simp [h1, h2, k1, k5, k2, k4]
      · simp [h1, h2]
    · simp [h1])

theorem opSize_le {k i o : Int} : 0 ≤ opSize k i o ∧ opSize k i o ≤ 36 := by
  unfold opSize
  split
  · omega
  · rename_i h
    have h1 : (1 ≤ i ∧ i ≤ 6) ∧ (1 ≤ o ∧ o ≤ 6) := by omega
    have := mul36 h1.1 h1.2
    split
    · omega
    · split
      · omega
      · split <;> omega

theorem opSize_out {k i o : Int} (h : ¬ (1 ≤ i ∧ i ≤ 6)) : opSize k i o = 0 := by
  unfold opSize
  rw [if_pos (.inl h)]

end Go.Sx
