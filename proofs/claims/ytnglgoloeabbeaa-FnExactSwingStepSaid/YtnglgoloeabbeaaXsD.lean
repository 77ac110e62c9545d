/-
  What the program's functions compute, as plain data: each from its tree.
-/
import Derived.Test.YtnglgoloeabbeaaXsC
namespace Go.Sx
open Go
set_option linter.unusedSimpArgs false
set_option linter.unusedVariables false


def Mo (l : List OpS) : Prop := Sm l ∧ ∀ o ∈ l, o.p.length ≤ 1048576
theorem ModelP.mo {l : List OpS} (h : ModelP l) : Mo l := by
  refine ⟨by have := h.1; unfold Sm; omega, fun o ho => ?_⟩
  have h1 := (opOk_iff.mp (h.2.1 o ho)).2.2.2.2.1
  have h2 := @opSize_le o.k o.i o.o
  omega

theorem ModelP.ends {l : List OpS} (h : ModelP l) : (1 ≤ inOf l ∧ inOf l ≤ 6) ∧ (1 ≤ outOf l ∧ outOf l ≤ 6) := by
  obtain ⟨h1, h2, _⟩ := h
  obtain ⟨x, hx⟩ := at_some (l := l) (n := 0) (by omega)
  obtain ⟨y, hy⟩ := at_some (l := l) (n := l.length - 1) (by omega)
  unfold inOf outOf
  rw [getD_at hx, getD_at hy]
  exact ⟨(opOk_iff.mp (h2 x (List.mem_of_getElem? hx))).2.1, (opOk_iff.mp (h2 y (List.mem_of_getElem? hy))).2.2.1⟩

def vecOk (l : List Int) : Bool := decide (1 ≤ (l.length : Int) ∧ (l.length : Int) ≤ 6) && l.all fixOk
theorem vecOk_iff {l : List Int} : vecOk l = true ↔ (1 ≤ l.length ∧ l.length ≤ 6) ∧ l.all fixOk = true := by
  simp only [vecOk, Bool.and_eq_true, decide_eq_true_eq]
  exact ⟨fun ⟨⟨a, b⟩, c⟩ => ⟨⟨by omega, by omega⟩, c⟩, fun ⟨⟨a, b⟩, c⟩ => ⟨⟨by omega, by omega⟩, c⟩⟩

/-- A batch that fits. -/
def BatchP (l : List OpS) (p : List (List Int × List Int)) : Prop := ModelP l ∧ (1 ≤ p.length ∧ p.length ≤ 5) ∧ ∀ q ∈ p, vecOk q.1 = true ∧ vecOk q.2 = true ∧ (q.1.length : Int) = inOf l ∧ (q.2.length : Int) = outOf l
/-- Pairs of a batch. -/
def Bq (l : List OpS) (p : List (List Int × List Int)) : Prop := ∀ q ∈ p, vecOk q.1 = true ∧ vecOk q.2 = true ∧ (q.1.length : Int) = inOf l ∧ (q.2.length : Int) = outOf l
theorem Bq.push {m : List OpS} {l : List (List Int × List Int)} (h : Bq m l) {x y : List Int} (hx : vecOk x = true ∧ (x.length : Int) = inOf m) (hy : vecOk y = true ∧ (y.length : Int) = outOf m) : Bq m (l ++ [(x, y)]) := by
  intro q hq
  rcases List.mem_append.mp hq with hq | hq
  · exact h q hq
  · cases List.mem_singleton.mp hq
    exact ⟨hx.1, hy.1, hx.2, hy.2⟩
theorem Bq.nil {m : List OpS} : Bq m [] := by intro q hq; cases hq
/-- One truth value. -/
def OneB (q : List D) : Prop := ∃ b : Bool, q = [.bool b]
theorem OneB.mk (b : Bool) : OneB [.bool b] := ⟨b, rfl⟩

/-- Rows of small vectors. -/
def Rs (n m : Nat) (l : List (List Int)) : Prop := l.length ≤ n ∧ ∀ r ∈ l, r.length ≤ m
theorem Rs.nil {n m : Nat} : Rs n m [] := ⟨Nat.zero_le _, by intro q hq; cases hq⟩
theorem mem_push {α : Type} {p : α → Prop} {l : List α} {x : α} (h : ∀ q ∈ l, p q) (hx : p x) : ∀ q ∈ l ++ [x], p q := by
  intro q hq
  rcases List.mem_append.mp hq with hq | hq
  · exact h q hq
  · cases List.mem_singleton.mp hq
    exact hx
def Al (m : Nat) (l : List (List Int)) : Prop := ∀ r ∈ l, r.length ≤ m
theorem Al.nil {m : Nat} : Al m [] := by intro q hq; cases hq
theorem Al.push {m : Nat} {l : List (List Int)} (h : Al m l) {x : List Int} (hx : x.length ≤ m) : Al m (l ++ [x]) := mem_push h hx
theorem rep_vI {n : Nat} {x : Int} : D.sl (List.replicate n [.int x]) = vI (List.replicate n x) := by simp [vI]

/-- Gradients that fit a model. -/
def FitP (l : List OpS) (r : List (List Int)) : Prop := r.length = l.length ∧ ∀ (j : Nat) (x : OpS) (y : List Int), l[j]? = some x → r[j]? = some y → y.length = x.p.length
theorem FitP.push {l : List OpS} {r : List (List Int)} {x : OpS} {y : List Int} (h : ∀ (j : Nat) (x : OpS) (y : List Int), l[j]? = some x → r[j]? = some y → y.length = x.p.length) (hx : l[r.length]? = some x) (hy : y.length = x.p.length) : ∀ (j : Nat) (u : OpS) (v : List Int), l[j]? = some u → (r ++ [y])[j]? = some v → v.length = u.p.length := by
  intro j u v hu hv
  by_cases hj : j < r.length
  · rw [List.getElem?_append_left hj] at hv
    exact h j u v hu hv
  · by_cases hj2 : j = r.length
    · subst hj2
      simp at hv
      rw [hx] at hu
      cases hu
      subst hv
      exact hy
    · rw [List.getElem?_eq_none (by simp; omega)] at hv
      cases hv
def zerosOf (l : List OpS) : List (List Int) := l.map fun o => List.replicate o.p.length 0
/-- Rows of numbers in range. -/
def AllR (r : List (List Int)) : Prop := ∀ y ∈ r, y.all fixOk = true
theorem zerosOf_fit {l : List OpS} : FitP l (zerosOf l) := by
  refine ⟨by simp [zerosOf], fun j x y hx hy => ?_⟩
  unfold zerosOf at hy
  rw [List.getElem?_map, hx] at hy
  cases hy
  simp
theorem rep_ok {n : Nat} : (List.replicate n (0 : Int)).all fixOk = true := by
  rw [List.all_eq_true]
  intro x hx
  rw [List.eq_of_mem_replicate hx]
  decide
theorem zerosOf_ok {l : List OpS} : AllR (zerosOf l) := by
  intro y hy
  unfold zerosOf at hy
  obtain ⟨o, _, rfl⟩ := List.mem_map.mp hy
  exact rep_ok
theorem zerosOf_Gk {l : List OpS} (h : Mo l) : Sm (zerosOf l) ∧ Al 1048576 (zerosOf l) := by
  refine ⟨?_, fun y hy => ?_⟩
  · have := h.1
    unfold Sm at *
    simpa [zerosOf] using this
  · unfold zerosOf at hy
    obtain ⟨o, ho, rfl⟩ := List.mem_map.mp hy
    simpa using h.2 o ho
theorem zerosOf_take {l : List OpS} {j : Nat} {x : OpS} (hx : l[j]? = some x) : zerosOf (l.take (j + 1)) = zerosOf (l.take j) ++ [List.replicate x.p.length 0] := by
  have hj : j < l.length := by
    rcases Nat.lt_or_ge j l.length with h | h
    · exact h
    · simp [List.getElem?_eq_none h] at hx
  rw [List.take_succ_eq_append_getElem hj]
  have : l[j] = x := by rw [List.getElem?_eq_getElem hj] at hx; simpa using hx
  simp [zerosOf, this]
def IZ (l : List OpS) (k : Nat) (vs : List D) : Prop := ∃ j : Nat, vs = [.int j, vR (zerosOf (l.take j))] ∧ j ≤ l.length ∧ k = l.length - j
def matOk (i o : Int) (p : List Int) : Bool := decide (1 ≤ i ∧ i ≤ 6) && decide (1 ≤ o ∧ o ≤ 6) && decide ((p.length : Int) = i * o) && p.all fixOk
theorem matOk_iff {i o : Int} {p : List Int} : matOk i o p = true ↔ (1 ≤ i ∧ i ≤ 6) ∧ (1 ≤ o ∧ o ≤ 6) ∧ (p.length : Int) = i * o ∧ p.all fixOk = true := by
  simp only [matOk, Bool.and_eq_true, decide_eq_true_eq, and_assoc]

end Go.Sx
