/-
  What the program's functions compute, as plain data: each from its tree.
-/
import Derived.Test.YtnglgoloeabbeaaXsE
namespace Go.Sx
open Go
set_option linter.unusedSimpArgs false
set_option linter.unusedVariables false


theorem vI_nil : D.sl [] = vI [] := rfl
theorem vR_nil : D.sl [] = vR [] := rfl
theorem vI_cat (a b : List Int) : D.sl ((vI a).l ++ (vI b).l) = vI (a ++ b) := by simp [vI]

theorem opSize_p {k i o : Int} (h : (1 ≤ i ∧ i ≤ 6) ∧ (1 ≤ o ∧ o ≤ 6)) : opSize k i o = if k = 1 ∨ k = 5 then i * o else if k = 2 then i else if k = 4 then 1 else 0 := by
  unfold opSize
  rw [if_neg (by omega)]
theorem opOk_mat {k i o : Int} {p : List Int} (h : opOk ⟨k, i, o, p⟩ = true) (hk : k = 1 ∨ k = 5) : matOk o i p = true := by
  obtain ⟨h1, h2, h3, h4, h5, h6⟩ := opOk_iff.mp h
  simp only at h1 h2 h3 h4 h5 h6
  rw [opSize_p ⟨h2, h3⟩, if_pos hk, Int.mul_comm] at h5
  exact matOk_iff.mpr ⟨h3, h2, h5, h6⟩

/-- What goes into each operation, and what comes out at last. -/
def InR (l : List OpS) (j : Nat) (r : List (List Int)) : Prop := ∀ (i : Nat) (g : List Int), i ≤ j → r[i]? = some g → vecOk g = true ∧ (∀ o, l[i]? = some o → (g.length : Int) = o.i) ∧ (i = l.length → (g.length : Int) = outOf l)
def RB (l : List OpS) (x : List Int) (m : Nat) (q : List D) : Prop := ∃ (r : List (List Int)) (b : Bool), q = [vR r, .bool b] ∧ r.length = l.length + 1 ∧ Al m r ∧ (ModelP l → vecOk x = true → (x.length : Int) = inOf l → InR l l.length r)
theorem Al.at {m : Nat} {l : List (List Int)} (h : Al m l) {j : Nat} {x : List Int} (hx : l[j]? = some x) : x.length ≤ m := h x (List.mem_of_getElem? hx)
theorem Mo.at {l : List OpS} (h : Mo l) {j : Nat} {x : OpS} (hx : l[j]? = some x) : x.p.length ≤ 1048576 := h.2 x (List.mem_of_getElem? hx)

theorem vR_one {x : List Int} : D.sl [[vI x]] = vR [x] := rfl

theorem InR.start {l : List OpS} {x : List Int} (hm : ModelP l) (hv : vecOk x = true) (hi : (x.length : Int) = inOf l) : InR l 0 [x] := by
  intro i g h hg
  have : i = 0 := by omega
  subst this
  cases hg
  refine ⟨hv, fun o ho => ?_, fun h => ?_⟩
  · rw [hi]
    unfold inOf
    rw [getD_at ho]
  · have := hm.1
    omega
theorem InR.step {l : List OpS} {r : List (List Int)} {j : Nat} (hm : ModelP l) (h : InR l j r) (hn : r.length = j + 1) {o : OpS} (ho : l[j]? = some o) {g : List Int} (hg : vecOk g = true) (hl : (g.length : Int) = o.o) : InR l (j + 1) (r ++ [g]) := by
  intro i y hi hy
  by_cases hij : i ≤ j
  · rw [List.getElem?_append_left (by omega)] at hy
    exact h i y hij hy
  · have e : i = r.length := by omega
    rw [List.getElem?_append_right (by omega), show i - r.length = 0 by omega] at hy
    cases hy
    refine ⟨hg, fun q hq => ?_, fun h => ?_⟩
    · rw [hl]
      exact (hm.2.2 j o q ho (by rw [show j + 1 = i by omega]; exact hq)).symm
    · rw [hl]
      unfold outOf
      rw [show l.length - 1 = j by omega, getD_at ho]
def IRx (l : List OpS) (x : List Int) (k : Nat) (vs : List D) : Prop := ∃ (j : Nat) (b : Bool) (r : List (List Int)), vs = [.int j, .bool b, vR r] ∧ (r.length = j + 1 ∧ Al 1048576 r ∧ (ModelP l → vecOk x = true → (x.length : Int) = inOf l → InR l j r)) ∧ j ≤ l.length ∧ k = l.length - j

def NBx (q : List D) : Prop := ∃ (x : Int) (s : Bool), q = [.int x, .bool s]
theorem all_at' {l : List Int} {j : Nat} {x : Int} (h : l.all fixOk = true) (hx : l[j]? = some x) : fixOk x = true := List.all_eq_true.mp h x (List.mem_of_getElem? hx)
end Go.Sx
