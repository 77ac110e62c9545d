/-
  What the program's functions compute, as plain data: each from its tree.
-/
import Derived.Test.YtnglgoloeabbeaaXsD
namespace Go.Sx
open Go
set_option linter.unusedSimpArgs false
set_option linter.unusedVariables false


theorem mul_lt {a b c d : Int} (h1 : 0 ≤ a ∧ a < b) (h2 : 0 ≤ c ∧ c < d) : 0 ≤ a * d + c ∧ a * d + c < b * d := by
  have h3 : (a + 1) * d ≤ b * d := Int.mul_le_mul_of_nonneg_right (by omega) (by omega)
  have h4 : 0 ≤ a * d := Int.mul_nonneg h1.1 (by omega)
  rw [Int.add_mul] at h3
  omega
theorem vI_slice {l : List Int} {a b : Nat} : D.sl (((vI l).l.take b).drop a) = vI ((l.take b).drop a) := by simp [vI]

def l2Sat (x : Int) : Int × Bool := if 2147483647 < x then (2147483647, true) else if x < -2147483647 then (-2147483647, true) else (x, false)
@[simp] theorem L_s_l2Sat {x : Int} : Pr s_l2Sat [.int x] ∧ G s_l2Sat [.int x] = [.int (l2Sat x).1, .bool (l2Sat x).2] :=
  g_s_l2Sat (Q := fun q => q = _) (by
    unfold t_s_l2Sat l2Sat
    simp
    by_cases h1 : 2147483647 < x
    · simp [h1]
    · by_cases h2 : x < -2147483647 <;> simp [h1, h2])
def l2In (x : Int) : Int := (l2Sat x).1
theorem l2In_le {x : Int} : -2147483647 ≤ l2In x ∧ l2In x ≤ 2147483647 := by
  unfold l2In l2Sat
  split
  · simp
  · split
    · simp
    · simp; omega
@[simp] theorem L_s_l2In {x : Int} : Pr s_l2In [.int x] ∧ G s_l2In [.int x] = [.int (l2In x)] :=
  g_s_l2In (Q := fun q => q = _) (by unfold t_s_l2In; simp [l2In])
theorem L_s_l2Floor {x y : Int} (hy : y ≠ 0) : ∃ z : Int, Pr s_l2Floor [.int x, .int y] ∧ G s_l2Floor [.int x, .int y] = [.int z] := by
  have := g_s_l2Floor (ds := [.int x, .int y]) (Q := fun q => ∃ z : Int, q = [.int z]) (by
    unfold t_s_l2Floor
    simp [hy]
    omega)
  obtain ⟨h1, r, h2⟩ := this
  exact ⟨r, h1, h2⟩

/-- A number and a truth value. -/
theorem l2Sat_ok0 {x : Int} : fixOk (l2Sat x).1 = true := by
  apply fixOk_of
  unfold l2Sat
  split
  · simp
  · split
    · simp
    · simp; omega
theorem L_s_FixMul {x y : Int} : ∃ (z : Int) (b : Bool), (Pr s_FixMul [.int x, .int y] ∧ G s_FixMul [.int x, .int y] = [.int z, .bool b]) ∧ fixOk z = true := by
  obtain ⟨z, e⟩ := L_s_l2Floor (x := IntKind.wrap .i64 (l2In x * l2In y)) (y := 65536) (by omega)
  exact ⟨(l2Sat z).1, (l2Sat z).2, g_s_FixMul (Q := fun q => q = _) (by unfold t_s_FixMul; simp [e]), l2Sat_ok0⟩

def fixAdd (x y : Int) : Int × Bool := l2Sat (l2In x + l2In y)
@[simp] theorem L_s_FixAdd {x y : Int} : Pr s_FixAdd [.int x, .int y] ∧ G s_FixAdd [.int x, .int y] = [.int (fixAdd x y).1, .bool (fixAdd x y).2] :=
  g_s_FixAdd (Q := fun q => q = _) (by
    have h1 := @l2In_le x
    have h2 := @l2In_le y
    have w : IntKind.wrap .i64 (l2In x + l2In y) = l2In x + l2In y := w64 (by omega) (by omega)
    unfold t_s_FixAdd
    simp [w, fixAdd])
@[simp] theorem L_s_FixSub {x y : Int} : Pr s_FixSub [.int x, .int y] ∧ G s_FixSub [.int x, .int y] = [.int (l2Sat (l2In x - l2In y)).1, .bool (l2Sat (l2In x - l2In y)).2] :=
  g_s_FixSub (Q := fun q => q = _) (by
    have h1 := @l2In_le x
    have h2 := @l2In_le y
    have w : IntKind.wrap .i64 (l2In x - l2In y) = l2In x - l2In y := w64 (by omega) (by omega)
    unfold t_s_FixSub
    simp [w])

/-- A vector and a truth value. -/
def VB (n : Nat) (q : List D) : Prop := ∃ (l : List Int) (b : Bool), q = [vI l, .bool b] ∧ l.length ≤ n
theorem VB.mk {n : Nat} {l : List Int} {b : Bool} (h : l.length ≤ n) : VB n [vI l, .bool b] := ⟨l, b, rfl, h⟩

def IV (n : Nat) (k : Nat) (vs : List D) : Prop := ∃ (j : Nat) (b : Bool) (r : List Int), vs = [.int j, .bool b, vI r] ∧ (r.length = j ∧ r.all fixOk = true) ∧ j ≤ n ∧ k = n - j
theorem IV.start {n : Nat} {b : Bool} : IV n n [.int 0, .bool b, vI []] := ⟨0, b, [], rfl, ⟨rfl, rfl⟩, Nat.zero_le _, rfl⟩
theorem IV.again {n j : Nat} {b : Bool} {r : List Int} {x : Int} {i : Int} (hi : i = ((j + 1 : Nat) : Int)) (hr : r.length = j ∧ r.all fixOk = true) (hx : fixOk x = true) (hj : j < n) : ∃ k', k' < n - j ∧ IV n k' [.int i, .bool b, vI (r ++ [x])] :=
  ⟨n - (j + 1), by omega, j + 1, b, r ++ [x], by rw [hi], ⟨by simp [hr.1], all_push hr.2 hx⟩, hj, rfl⟩
def IN (n : Nat) (k : Nat) (vs : List D) : Prop := ∃ (j : Nat) (b : Bool) (x : Int), vs = [.int j, .bool b, .int x] ∧ fixOk x = true ∧ j ≤ n ∧ k = n - j
theorem IN.start {n : Nat} {b : Bool} : IN n n [.int 0, .bool b, .int 0] := ⟨0, b, 0, rfl, by decide, Nat.zero_le _, rfl⟩
theorem IN.again {n j : Nat} {b : Bool} {x : Int} {i : Int} (hi : i = ((j + 1 : Nat) : Int)) (hx : fixOk x = true) (hj : j < n) : ∃ k', k' < n - j ∧ IN n k' [.int i, .bool b, .int x] :=
  ⟨n - (j + 1), by omega, j + 1, b, x, by rw [hi], hx, hj, rfl⟩
def IL (n : Nat) (k : Nat) (vs : List D) : Prop := ∃ (j : Nat) (r : List Int), vs = [.int j, vI r] ∧ (r.length = j ∧ r.all fixOk = true) ∧ j ≤ n ∧ k = n - j
theorem IL.start {n : Nat} : IL n n [.int 0, vI []] := ⟨0, [], rfl, ⟨rfl, rfl⟩, Nat.zero_le _, rfl⟩
theorem IL.again {n j : Nat} {r : List Int} {x : Int} {i : Int} (hi : i = ((j + 1 : Nat) : Int)) (hr : r.length = j ∧ r.all fixOk = true) (hx : fixOk x = true) (hj : j < n) : ∃ k', k' < n - j ∧ IL n k' [.int i, vI (r ++ [x])] :=
  ⟨n - (j + 1), by omega, j + 1, r ++ [x], by rw [hi], ⟨by simp [hr.1], all_push hr.2 hx⟩, hj, rfl⟩
def NB (q : List D) : Prop := ∃ (x : Int) (b : Bool), q = [.int x, .bool b] ∧ fixOk x = true
theorem NB.mk {x : Int} {b : Bool} (h : fixOk x = true) : NB [.int x, .bool b] := ⟨x, b, rfl, h⟩
theorem l2Sat_ok' {x : Int} : fixOk (l2Sat x).1 = true := by
  apply fixOk_of
  unfold l2Sat
  split
  · simp
  · split
    · simp
    · simp; omega
theorem l2In_ok {x : Int} : fixOk (l2In x) = true := fixOk_of l2In_le
/-- A vector of numbers in range, of no more than so many; and of so many, where this holds. -/
def VBx (n : Nat) (p : Prop) (m : Nat) (q : List D) : Prop := ∃ (l : List Int) (b : Bool), q = [vI l, .bool b] ∧ l.length ≤ n ∧ l.all fixOk = true ∧ (p → l.length = m)
theorem VBx.mk {n : Nat} {p : Prop} {m : Nat} {l : List Int} {b : Bool} (h : l.length ≤ n) (h1 : l.all fixOk = true) (h2 : p → l.length = m) : VBx n p m [vI l, .bool b] := ⟨l, b, rfl, h, h1, h2⟩
def VLx (n : Nat) (p : Prop) (m : Nat) (q : List D) : Prop := ∃ l : List Int, q = [vI l] ∧ l.length ≤ n ∧ l.all fixOk = true ∧ (p → l.length = m)
theorem VLx.mk {n : Nat} {p : Prop} {m : Nat} {l : List Int} (h : l.length ≤ n) (h1 : l.all fixOk = true) (h2 : p → l.length = m) : VLx n p m [vI l] := ⟨l, rfl, h, h1, h2⟩

theorem relu_ok {x : Int} : fixOk (if l2In x > 0 then l2In x else 0) = true := by
  split
  · exact l2In_ok
  · decide
end Go.Sx
