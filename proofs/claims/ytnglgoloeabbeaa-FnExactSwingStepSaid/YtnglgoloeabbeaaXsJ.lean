/-
  What the program's functions compute, as plain data: each from its tree.
-/
import Derived.Test.YtnglgoloeabbeaaXsI
namespace Go.Sx
open Go
set_option linter.unusedSimpArgs false
set_option linter.unusedVariables false


/-! ### The ring -/

/-- What box this is to hold after so many steps. -/
def want (l : List GrS) (t i : Nat) : GrS :=
  if t < l.length then (if i ≤ t then pre l i else l.getD i default) else if i + l.length ≤ t ∨ i + 1 = l.length then pre l (l.length - 1) else pre l i
def RI (l : List GrS) (t : Nat) (b : List GrS) : Prop := b.length = l.length ∧ ∀ i x, b[i]? = some x → x = want l t i

theorem want_ok {l : List GrS} (h : Gs l) {t i : Nat} (hi : i < l.length) : Gr (want l t i) := by
  unfold want
  split
  · split
    · exact pre_ok h hi
    · obtain ⟨x, hx⟩ := at_some hi
      rw [getD_at hx]
      exact h.at hx
  · split
    · exact pre_ok h (by omega)
    · exact pre_ok h hi
theorem RI.gs {l : List GrS} {t : Nat} {b : List GrS} (hg : Gs l) (h : RI l t b) : Gs b := by
  intro g hb
  obtain ⟨i, hi⟩ := List.mem_iff_getElem?.mp hb
  rw [h.2 i g hi]
  exact want_ok hg (by have := lt_of_at hi; have := h.1; omega)
theorem RI.start {l : List GrS} (h : 1 ≤ l.length) : RI l 0 l := by
  refine ⟨rfl, ?_⟩
  intro i x hx
  unfold want
  rw [if_pos (by omega)]
  split
  · have : i = 0 := by omega
    subst this
    simp only [pre]
    rw [getD_at hx]
  · rw [getD_at hx]
theorem RI.step {l b : List GrS} {t : Nat} (h : RI l t b) (ht : t + 2 < 2 * l.length) : RI l (t + 1) (rstep b t) := by
  have hn := h.1
  unfold rstep
  split
  · rename_i c
    refine ⟨by simp [hn], ?_⟩
    intro i x hx
    obtain ⟨y, hy⟩ := at_some (l := b) (n := t) (by omega)
    obtain ⟨z, hz⟩ := at_some (l := b) (n := t + 1) (by omega)
    have ey := h.2 t y hy
    have ez := h.2 (t + 1) z hz
    rw [getD_at hy, getD_at hz, List.getElem?_set] at hx
    unfold want at *
    rw [if_pos (by omega)] at ey ez
    rw [if_pos (by omega)] at ey
    rw [if_neg (by omega)] at ez
    rw [if_pos (by omega)]
    by_cases hi : i = t + 1
    · subst hi
      rw [if_pos (by omega)]
      simp [c] at hx
      rw [← hx, ey, ez]
      rfl
    · rw [if_neg (by omega)] at hx
      have ex := h.2 i x hx
      unfold want at ex
      rw [if_pos (by omega)] at ex
      rw [ex]
      by_cases h1 : i ≤ t
      · rw [if_pos h1, if_pos (by omega)]
      · rw [if_neg h1, if_neg (by omega)]
  · rename_i c
    refine ⟨by simp [hn], ?_⟩
    intro i x hx
    obtain ⟨y, hy⟩ := at_some (l := b) (n := b.length - 1) (by omega)
    have ey := h.2 _ y hy
    rw [getD_at hy, List.getElem?_set] at hx
    unfold want at *
    have ey' : y = pre l (l.length - 1) := by
      rw [ey, hn]
      split
      · rw [if_pos (by omega)]
      · rw [if_pos (by omega)]
    rw [if_neg (by omega)]
    by_cases hi : i = t + 1 - b.length
    · rw [if_pos (by omega)] at hx
      rw [if_pos (by omega)] at hx
      rw [if_pos (by omega), ← ey']
      exact (Option.some.inj hx).symm
    · rw [if_neg (by omega)] at hx
      have ex := h.2 i x hx
      unfold want at ex
      rw [ex]
      have hi2 := lt_of_at hx
      by_cases c2 : t < l.length
      · rw [if_pos c2, if_pos (by omega)]
        by_cases h1 : i + 1 = l.length
        · rw [if_pos (by omega)]
          congr
          omega
        · rw [if_neg (by omega)]
      · rw [if_neg c2]
        by_cases h1 : i + l.length ≤ t ∨ i + 1 = l.length
        · rw [if_pos h1, if_pos (by omega)]
        · rw [if_neg h1, if_neg (by omega)]
theorem RI.done {l b : List GrS} (h : RI l (2 * l.length - 2) b) {i : Nat} {x : GrS} (hx : b[i]? = some x) : x = pre l (l.length - 1) := by
  have hi := lt_of_at hx
  have hn := h.1
  rw [h.2 i x hx]
  unfold want
  split
  · have h1 : l.length = 1 := by omega
    rw [if_pos (by omega)]
    congr
    omega
  · rw [if_pos (by omega)]

def IW (l : List GrS) (k : Nat) (vs : List D) : Prop := ∃ (t : Nat) (b : List GrS), vs = [.int t, .int t, vG b] ∧ RI l t b ∧ t + 2 ≤ 2 * l.length ∧ k = 2 * l.length - t

end Go.Sx
