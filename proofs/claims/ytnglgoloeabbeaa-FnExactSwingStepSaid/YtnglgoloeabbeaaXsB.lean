/-
  What the program's functions compute, as plain data: each from its tree.
-/
import Derived.Test.YtnglgoloeabbeaaXsA
namespace Go.Sx
open Go
set_option linter.unusedSimpArgs false
set_option linter.unusedVariables false


theorem mk1 {x : D} : chunks 1 1 [x] = [[x]] := rfl
def opOk (o : OpS) : Bool := decide (1 ≤ o.k ∧ o.k ≤ 5) && decide (1 ≤ o.i ∧ o.i ≤ 6) && decide (1 ≤ o.o ∧ o.o ≤ 6) && (decide (o.k = 1) || decide (o.i = o.o)) && decide ((o.p.length : Int) = opSize o.k o.i o.o) && o.p.all fixOk

theorem opOk_iff {o : OpS} : opOk o = true ↔ (1 ≤ o.k ∧ o.k ≤ 5) ∧ (1 ≤ o.i ∧ o.i ≤ 6) ∧ (1 ≤ o.o ∧ o.o ≤ 6) ∧ (o.k = 1 ∨ o.i = o.o) ∧ (o.p.length : Int) = opSize o.k o.i o.o ∧ o.p.all fixOk = true := by
  simp only [opOk, Bool.and_eq_true, Bool.or_eq_true, decide_eq_true_eq]
  constructor
  · rintro ⟨⟨⟨⟨⟨a, b⟩, c⟩, d⟩, e⟩, f⟩
    exact ⟨a, b, c, d, e, f⟩
  · rintro ⟨a, b, c, d, e, f⟩
    exact ⟨⟨⟨⟨⟨a, b⟩, c⟩, d⟩, e⟩, f⟩


/-- A model whose operations fit. -/
def ModelP (l : List OpS) : Prop := (1 ≤ l.length ∧ l.length ≤ 8) ∧ (∀ o ∈ l, opOk o = true) ∧ ∀ (j : Nat) (x y : OpS), l[j]? = some x → l[j + 1]? = some y → y.i = x.o
def inOf (l : List OpS) : Int := (l.getD 0 default).i
def outOf (l : List OpS) : Int := (l.getD (l.length - 1) default).o
theorem getD_at {α : Type} [Inhabited α] {l : List α} {j : Nat} {x : α} (hx : l[j]? = some x) : l.getD j default = x := by simp [List.getD_eq_getElem?_getD, hx]

theorem all_push {l : List Int} {x : Int} (h : l.all fixOk = true) (hx : fixOk x = true) : (l ++ [x]).all fixOk = true := by simp only [List.all_append, h, List.all_cons, hx, List.all_nil, Bool.and_self]

/-- A model as it grows: its operations fit, and the next is to take so many. -/
def Chain (l : List OpS) (m : Int) : Prop := (1 ≤ m ∧ m ≤ 6) ∧ (∀ o ∈ l, opOk o = true) ∧ (∀ (j : Nat) (x y : OpS), l[j]? = some x → l[j + 1]? = some y → y.i = x.o) ∧ ∀ (x : OpS), l[l.length - 1]? = some x → x.o = m
theorem Chain.nil {m : Int} (h : 1 ≤ m ∧ m ≤ 6) : Chain [] m :=
  And.intro h (And.intro (fun o ho => nomatch ho) (And.intro (fun j x y hx => nomatch hx) (fun x hx => nomatch hx)))
theorem Chain.push {l : List OpS} {m : Int} (h : Chain l m) {o : OpS} (ho : opOk o = true) (hi : o.i = m) : Chain (l ++ [o]) o.o := by
  obtain ⟨h1, h2, h3, h4⟩ := h
  refine ⟨(opOk_iff.mp ho).2.2.1, ?_, ?_, ?_⟩
  · intro q hq
    rcases List.mem_append.mp hq with hq | hq
    · exact h2 q hq
    · cases List.mem_singleton.mp hq
      exact ho
  · intro j x y hx hy
    by_cases hj : j + 1 < l.length
    · rw [List.getElem?_append_left (by omega)] at hx hy
      exact h3 j x y hx hy
    · by_cases hj2 : j + 1 = l.length
      · rw [List.getElem?_append_left (by omega)] at hx
        rw [List.getElem?_append_right (by omega), show j + 1 - l.length = 0 by omega] at hy
        simp at hy
        subst hy
        rw [hi, h4 x (by rw [show l.length - 1 = j by omega]; exact hx)]
      · rw [List.getElem?_append_right (by omega)] at hy
        rw [List.getElem?_eq_none (by simp; omega)] at hy
        cases hy
  · intro x hx
    simp at hx
    rw [hx]

end Go.Sx
