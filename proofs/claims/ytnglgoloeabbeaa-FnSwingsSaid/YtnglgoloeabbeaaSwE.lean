/-
  What the program's functions compute, as plain data: each from its tree.
-/
import Derived.Test.YtnglgoloeabbeaaSwD
namespace Go.Sx
open Go
set_option linter.unusedSimpArgs false
set_option linter.unusedVariables false


theorem mul_lt {a b c d : Int} (h1 : 0 ≤ a ∧ a < b) (h2 : 0 ≤ c ∧ c < d) : 0 ≤ a * d + c ∧ a * d + c < b * d := by
  have h3 : (a + 1) * d ≤ b * d := Int.mul_le_mul_of_nonneg_right (by omega) (by omega)
  have h4 : 0 ≤ a * d := Int.mul_nonneg h1.1 (by omega)
  rw [Int.add_mul] at h3
  omega
theorem vI_slice {l : List Int} {a b : Nat} : D.sl (((vI l).l.take b).drop a) = vI ((l.take b).drop a) := by simp [vI]

/-- A row of a matrix that is all right. -/
theorem L_s_l4Row {i o j : Int} {p : List Int} (h : matOk i o p = true) (hj : 0 ≤ j ∧ j < i) : ∃ r : List Int, (Pr s_l4Row [.int i, .int o, vI p, .int j] ∧ G s_l4Row [.int i, .int o, vI p, .int j] = [vI r]) ∧ r.length = o.toNat := by
  obtain ⟨h1, h2, h3, _⟩ := matOk_iff.mp h
  have m := mul36 h1 h2
  have k0 : 0 ≤ j * o := Int.mul_nonneg hj.1 (by omega)
  have k1 : (j + 1) * o ≤ i * o := Int.mul_le_mul_of_nonneg_right (by omega) (by omega)
  have k2 : (j + 1) * o = j * o + o := by rw [Int.add_mul]; omega
  have := g_s_l4Row (ds := [.int i, .int o, vI p, .int j]) (Q := fun q => ∃ r : List Int, q = [vI r] ∧ r.length = o.toNat) (by
    unfold t_s_l4Row
    have w1 : IntKind.wrap .i64 (j * o) = j * o := w64 (by omega) (by omega)
    have w2 : IntKind.wrap .i64 (j + 1) = j + 1 := w64 (by omega) (by omega)
    have w3 : IntKind.wrap .i64 ((j + 1) * o) = (j + 1) * o := w64 (by omega) (by omega)
    simp [w1, w2, w3, vI_slice]
    refine ⟨k0, by omega, by omega, _, rfl, ?_⟩
    simp
    omega)
  obtain ⟨h1, r, h2, h3⟩ := this
  exact ⟨r, ⟨h1, h2⟩, h3⟩

theorem L_s_l3Pair {a b : List Int} (ha : Sm a) (hb : Sm b) : Pr s_l3Pair [vI a, vI b] ∧ G s_l3Pair [vI a, vI b] = [.bool (vecOk a && vecOk b && decide (a.length = b.length))] :=
  g_s_l3Pair (Q := fun q => q = _) (by
    unfold t_s_l3Pair
    simp [L_s_VecOk ha, L_s_VecOk hb]
    cases vecOk a <;> cases vecOk b <;> simp
    rw [Bool.eq_iff_iff]
    simp
    omega)

def l2Sat (x : Int) : Int × Bool := if 2147483647 < x then (2147483647, true) else if x < -2147483647 then (-2147483647, true) else (x, false)
@[simp] theorem L_s_l2Sat {x : Int} : Pr s_l2Sat [.int x] ∧ G s_l2Sat [.int x] = [.int (l2Sat x).1, .bool (l2Sat x).2] :=
  g_s_l2Sat (Q := fun q => q = _) (by
    unfold t_s_l2Sat l2Sat
    simp
    by_cases h1 : 2147483647 < x
    · simp [h1]
    · by_cases h2 : x < -2147483647 <;> simp [h1, h2])
def l2In (x : Int) : Int := (l2Sat x).1
theorem l2In_le {x : Int} : -2147483647 ≤ l2In x ∧ l2In x ≤ 2147483647 := by
  unfold l2In l2Sat
  split
  · simp
  · split
    · simp
    · simp; omega
@[simp] theorem L_s_l2In {x : Int} : Pr s_l2In [.int x] ∧ G s_l2In [.int x] = [.int (l2In x)] :=
  g_s_l2In (Q := fun q => q = _) (by unfold t_s_l2In; simp [l2In])
theorem L_s_l2Floor {x y : Int} (hy : y ≠ 0) : ∃ z : Int, Pr s_l2Floor [.int x, .int y] ∧ G s_l2Floor [.int x, .int y] = [.int z] := by
  have := g_s_l2Floor (ds := [.int x, .int y]) (Q := fun q => ∃ z : Int, q = [.int z]) (by
    unfold t_s_l2Floor
    simp [hy]
    omega)
  obtain ⟨h1, r, h2⟩ := this
  exact ⟨r, h1, h2⟩

/-- A number and a truth value. -/
theorem l2Sat_ok0 {x : Int} : fixOk (l2Sat x).1 = true := by
  apply fixOk_of
  unfold l2Sat
  split
  · simp
  · split
    · simp
    · simp; omega
theorem L_s_FixMul {x y : Int} : ∃ (z : Int) (b : Bool), (Pr s_FixMul [.int x, .int y] ∧ G s_FixMul [.int x, .int y] = [.int z, .bool b]) ∧ fixOk z = true := by
  obtain ⟨z, e⟩ := L_s_l2Floor (x := IntKind.wrap .i64 (l2In x * l2In y)) (y := 65536) (by omega)
  exact ⟨(l2Sat z).1, (l2Sat z).2, g_s_FixMul (Q := fun q => q = _) (by unfold t_s_FixMul; simp [e]), l2Sat_ok0⟩

def fixAdd (x y : Int) : Int × Bool := l2Sat (l2In x + l2In y)
@[simp] theorem L_s_FixAdd {x y : Int} : Pr s_FixAdd [.int x, .int y] ∧ G s_FixAdd [.int x, .int y] = [.int (fixAdd x y).1, .bool (fixAdd x y).2] :=
  g_s_FixAdd (Q := fun q => q = _) (by
    have h1 := @l2In_le x
    have h2 := @l2In_le y
    have w : IntKind.wrap .i64 (l2In x + l2In y) = l2In x + l2In y := w64 (by omega) (by omega)
    unfold t_s_FixAdd
    simp [w, fixAdd])
@[simp] theorem L_s_FixSub {x y : Int} : Pr s_FixSub [.int x, .int y] ∧ G s_FixSub [.int x, .int y] = [.int (l2Sat (l2In x - l2In y)).1, .bool (l2Sat (l2In x - l2In y)).2] :=
  g_s_FixSub (Q := fun q => q = _) (by
    have h1 := @l2In_le x
    have h2 := @l2In_le y
    have w : IntKind.wrap .i64 (l2In x - l2In y) = l2In x - l2In y := w64 (by omega) (by omega)
    unfold t_s_FixSub
    simp [w])

/-- A vector and a truth value. -/
def VB (n : Nat) (q : List D) : Prop := ∃ (l : List Int) (b : Bool), q = [vI l, .bool b] ∧ l.length ≤ n
theorem VB.mk {n : Nat} {l : List Int} {b : Bool} (h : l.length ≤ n) : VB n [vI l, .bool b] := ⟨l, b, rfl, h⟩

def IV (n : Nat) (k : Nat) (vs : List D) : Prop := ∃ (j : Nat) (b : Bool) (r : List Int), vs = [.int j, .bool b, vI r] ∧ (r.length = j ∧ r.all fixOk = true) ∧ j ≤ n ∧ k = n - j
theorem IV.start {n : Nat} {b : Bool} : IV n n [.int 0, .bool b, vI []] := ⟨0, b, [], rfl, ⟨rfl, rfl⟩, Nat.zero_le _, rfl⟩
theorem IV.again {n j : Nat} {b : Bool} {r : List Int} {x : Int} {i : Int} (hi : i = ((j + 1 : Nat) : Int)) (hr : r.length = j ∧ r.all fixOk = true) (hx : fixOk x = true) (hj : j < n) : ∃ k', k' < n - j ∧ IV n k' [.int i, .bool b, vI (r ++ [x])] :=
  ⟨n - (j + 1), by omega, j + 1, b, r ++ [x], by rw [hi], ⟨by simp [hr.1], all_push hr.2 hx⟩, hj, rfl⟩
def IN (n : Nat) (k : Nat) (vs : List D) : Prop := ∃ (j : Nat) (b : Bool) (x : Int), vs = [.int j, .bool b, .int x] ∧ fixOk x = true ∧ j ≤ n ∧ k = n - j
theorem IN.start {n : Nat} {b : Bool} : IN n n [.int 0, .bool b, .int 0] := ⟨0, b, 0, rfl, by decide, Nat.zero_le _, rfl⟩
theorem IN.again {n j : Nat} {b : Bool} {x : Int} {i : Int} (hi : i = ((j + 1 : Nat) : Int)) (hx : fixOk x = true) (hj : j < n) : ∃ k', k' < n - j ∧ IN n k' [.int i, .bool b, .int x] :=
  ⟨n - (j + 1), by omega, j + 1, b, x, by rw [hi], hx, hj, rfl⟩
def IL (n : Nat) (k : Nat) (vs : List D) : Prop := ∃ (j : Nat) (r : List Int), vs = [.int j, vI r] ∧ (r.length = j ∧ r.all fixOk = true) ∧ j ≤ n ∧ k = n - j
theorem IL.start {n : Nat} : IL n n [.int 0, vI []] := ⟨0, [], rfl, ⟨rfl, rfl⟩, Nat.zero_le _, rfl⟩
theorem IL.again {n j : Nat} {r : List Int} {x : Int} {i : Int} (hi : i = ((j + 1 : Nat) : Int)) (hr : r.length = j ∧ r.all fixOk = true) (hx : fixOk x = true) (hj : j < n) : ∃ k', k' < n - j ∧ IL n k' [.int i, vI (r ++ [x])] :=
  ⟨n - (j + 1), by omega, j + 1, r ++ [x], by rw [hi], ⟨by simp [hr.1], all_push hr.2 hx⟩, hj, rfl⟩
def NB (q : List D) : Prop := ∃ (x : Int) (b : Bool), q = [.int x, .bool b] ∧ fixOk x = true
theorem NB.mk {x : Int} {b : Bool} (h : fixOk x = true) : NB [.int x, .bool b] := ⟨x, b, rfl, h⟩
theorem l2Sat_ok' {x : Int} : fixOk (l2Sat x).1 = true := by
  apply fixOk_of
  unfold l2Sat
  split
  · simp
  · split
    · simp
    · simp; omega
theorem l2In_ok {x : Int} : fixOk (l2In x) = true := fixOk_of l2In_le
/-- A vector of numbers in range, of no more than so many; and of so many, where this holds. -/
def VBx (n : Nat) (p : Prop) (m : Nat) (q : List D) : Prop := ∃ (l : List Int) (b : Bool), q = [vI l, .bool b] ∧ l.length ≤ n ∧ l.all fixOk = true ∧ (p → l.length = m)
theorem VBx.mk {n : Nat} {p : Prop} {m : Nat} {l : List Int} {b : Bool} (h : l.length ≤ n) (h1 : l.all fixOk = true) (h2 : p → l.length = m) : VBx n p m [vI l, .bool b] := ⟨l, b, rfl, h, h1, h2⟩
def VLx (n : Nat) (p : Prop) (m : Nat) (q : List D) : Prop := ∃ l : List Int, q = [vI l] ∧ l.length ≤ n ∧ l.all fixOk = true ∧ (p → l.length = m)
theorem VLx.mk {n : Nat} {p : Prop} {m : Nat} {l : List Int} (h : l.length ≤ n) (h1 : l.all fixOk = true) (h2 : p → l.length = m) : VLx n p m [vI l] := ⟨l, rfl, h, h1, h2⟩

theorem L_s_VecDot {a b : List Int} (ha : Sm a) (hb : Sm b) : ∃ (x : Int) (s : Bool), (Pr s_VecDot [vI a, vI b] ∧ G s_VecDot [vI a, vI b] = [.int x, .bool s]) ∧ fixOk x = true := by
  have := g_s_VecDot (ds := [vI a, vI b]) (Q := NB) (by
    unfold t_s_VecDot
    refine wp_loop (IN a.length) rfl a.length .start ?_
    rintro m _ ⟨j, s, x0, rfl, hx0, hj, rfl⟩
    have e := L_s_l3Pair ha hb
    unfold Sm at ha hb
    by_cases hlt : j < a.length
    · by_cases hp : (vecOk a && vecOk b && decide (a.length = b.length)) = true
      · have hl : a.length = b.length := by simp at hp; exact hp.2
        obtain ⟨x, hx⟩ := at_some hlt
        obtain ⟨y, hy⟩ := at_some (l := b) (n := j) (by omega)
        obtain ⟨z, t, ez, _⟩ := L_s_FixMul (x := x) (y := y)
        rw [hp] at e
        simp [-getElem?_pos, hlt, hx, hy, e, ez, ← hl]
        exact ⟨by cases s <;> cases t <;> simp, IN.again (wS (by omega)) l2Sat_ok' hlt⟩
      · rw [Bool.not_eq_true] at hp
        rw [hp] at e
        simp [hlt, e]
        exact .mk hx0
    · simp [hlt]
      exact .mk hx0)
  obtain ⟨h1, x, b, h2, h3⟩ := this
  exact ⟨x, b, ⟨h1, h2⟩, h3⟩

theorem L_s_MatVec {i o : Int} {p l : List Int} (hp : Sm p) (hl : Sm l) : ∃ (r : List Int) (s : Bool), (Pr s_MatVec [.int i, .int o, vI p, vI l] ∧ G s_MatVec [.int i, .int o, vI p, vI l] = [vI r, .bool s]) ∧ r.length ≤ 6 ∧ r.all fixOk = true ∧ (matOk i o p = true ∧ vecOk l = true ∧ (l.length : Int) = o → r.length = i.toNat) := by
  have := g_s_MatVec (ds := [.int i, .int o, vI p, vI l]) (Q := VBx 6 (matOk i o p = true ∧ vecOk l = true ∧ (l.length : Int) = o) i.toNat) (by
    unfold t_s_MatVec
    simp [L_s_MatOk hp, L_s_VecOk hl]
    refine ⟨by cases matOk i o p <;> cases vecOk l <;> simp, ?_⟩
    split
    · rename_i hc
      exact VBx.mk (l := []) (by simp) rfl fun h => absurd h.2.2 (hc h.1 h.2.1)
    · rename_i hc
      simp only [Classical.not_imp, Decidable.not_not] at hc
      obtain ⟨hm, hv, hlo⟩ := hc
      have hm' := matOk_iff.mp hm
      refine wp_loop (IV i.toNat) rfl i.toNat .start ?_
      rintro m _ ⟨j, s, r, rfl, hr, hj, rfl⟩
      by_cases hlt : (j : Int) < i
      · obtain ⟨w, e, hw⟩ := L_s_l4Row (j := (j : Int)) hm ⟨by omega, hlt⟩
        obtain ⟨x, t, e2, x2⟩ := L_s_VecDot (a := w) (b := l) (by unfold Sm; omega) hl
        simp [hlt, e, e2, mk1, vI_push]
        exact ⟨by omega, IV.again (wS (by omega)) hr x2 (by omega)⟩
      · simp [hlt]
        exact .mk (by omega) hr.2 fun _ => by omega)
  obtain ⟨h1, x, b, h2, h3⟩ := this
  exact ⟨x, b, ⟨h1, h2⟩, h3⟩

theorem L_s_VecAdd {a b : List Int} (ha : Sm a) (hb : Sm b) : ∃ (r : List Int) (s : Bool), (Pr s_VecAdd [vI a, vI b] ∧ G s_VecAdd [vI a, vI b] = [vI r, .bool s]) ∧ r.length ≤ a.length ∧ r.all fixOk = true ∧ (vecOk a = true ∧ vecOk b = true ∧ a.length = b.length → r.length = a.length) := by
  have := g_s_VecAdd (ds := [vI a, vI b]) (Q := VBx a.length (vecOk a = true ∧ vecOk b = true ∧ a.length = b.length) a.length) (by
    unfold t_s_VecAdd
    refine wp_loop (IV a.length) rfl a.length .start ?_
    rintro m _ ⟨j, s, r, rfl, hr, hj, rfl⟩
    have e := L_s_l3Pair ha hb
    unfold Sm at ha hb
    by_cases hlt : j < a.length
    · by_cases hp : (vecOk a && vecOk b && decide (a.length = b.length)) = true
      · have hl : a.length = b.length := by simp at hp; exact hp.2
        obtain ⟨x, hx⟩ := at_some hlt
        obtain ⟨y, hy⟩ := at_some (l := b) (n := j) (by omega)
        rw [hp] at e
        simp [-getElem?_pos, hlt, hx, hy, e, mk1, vI_push, ← hl]
        exact ⟨by omega, IV.again (wS (by omega)) hr l2Sat_ok' hlt⟩
      · rw [Bool.not_eq_true] at hp
        rw [hp] at e
        simp [hlt, e]
        refine .mk (by omega) hr.2 fun h => ?_
        simp [h.1, h.2.1, h.2.2] at hp
    · simp [hlt]
      exact .mk (by omega) hr.2 fun _ => by omega)
  obtain ⟨h1, x, b, h2, h3⟩ := this
  exact ⟨x, b, ⟨h1, h2⟩, h3⟩

theorem L_s_VecSub {a b : List Int} (ha : Sm a) (hb : Sm b) : ∃ (r : List Int) (s : Bool), (Pr s_VecSub [vI a, vI b] ∧ G s_VecSub [vI a, vI b] = [vI r, .bool s]) ∧ r.length ≤ a.length ∧ r.all fixOk = true ∧ (vecOk a = true ∧ vecOk b = true ∧ a.length = b.length → r.length = a.length) := by
  have := g_s_VecSub (ds := [vI a, vI b]) (Q := VBx a.length (vecOk a = true ∧ vecOk b = true ∧ a.length = b.length) a.length) (by
    unfold t_s_VecSub
    refine wp_loop (IV a.length) rfl a.length .start ?_
    rintro m _ ⟨j, s, r, rfl, hr, hj, rfl⟩
    have e := L_s_l3Pair ha hb
    unfold Sm at ha hb
    by_cases hlt : j < a.length
    · by_cases hp : (vecOk a && vecOk b && decide (a.length = b.length)) = true
      · have hl : a.length = b.length := by simp at hp; exact hp.2
        obtain ⟨x, hx⟩ := at_some hlt
        obtain ⟨y, hy⟩ := at_some (l := b) (n := j) (by omega)
        rw [hp] at e
        simp [-getElem?_pos, hlt, hx, hy, e, mk1, vI_push, ← hl]
        exact ⟨by omega, IV.again (wS (by omega)) hr l2Sat_ok' hlt⟩
      · rw [Bool.not_eq_true] at hp
        rw [hp] at e
        simp [hlt, e]
        refine .mk (by omega) hr.2 fun h => ?_
        simp [h.1, h.2.1, h.2.2] at hp
    · simp [hlt]
      exact .mk (by omega) hr.2 fun _ => by omega)
  obtain ⟨h1, x, b, h2, h3⟩ := this
  exact ⟨x, b, ⟨h1, h2⟩, h3⟩

@[simp] theorem L_s_Relu {x : Int} : Pr s_Relu [.int x] ∧ G s_Relu [.int x] = [.int (if l2In x > 0 then l2In x else 0)] :=
  g_s_Relu (Q := fun q => q = _) (by unfold t_s_Relu; simp)

theorem relu_ok {x : Int} : fixOk (if l2In x > 0 then l2In x else 0) = true := by
  split
  · exact l2In_ok
  · decide
theorem L_s_VecRelu {a : List Int} (ha : Sm a) : ∃ r : List Int, (Pr s_VecRelu [vI a] ∧ G s_VecRelu [vI a] = [vI r]) ∧ r.length ≤ a.length ∧ r.all fixOk = true ∧ (vecOk a = true → r.length = a.length) := by
  have := g_s_VecRelu (ds := [vI a]) (Q := VLx a.length (vecOk a = true) a.length) (by
    unfold t_s_VecRelu
    refine wp_loop (IL a.length) rfl a.length .start ?_
    rintro m _ ⟨j, r, rfl, hr, hj, rfl⟩
    have e := L_s_VecOk ha
    unfold Sm at ha
    by_cases hlt : j < a.length
    · cases hp : vecOk a with
      | true =>
        obtain ⟨x, hx⟩ := at_some hlt
        rw [hp] at e
        simp [-getElem?_pos, hlt, hx, e, mk1, vI_push]
        exact ⟨by omega, IL.again (wS (by omega)) hr relu_ok hlt⟩
      | false =>
        rw [hp] at e
        simp [hlt, e]
        exact .mk (by omega) hr.2 fun h => by simp_all
    · simp [hlt]
      exact .mk (by omega) hr.2 fun _ => by omega)
  obtain ⟨h1, x, h2, h3⟩ := this
  exact ⟨x, ⟨h1, h2⟩, h3⟩

theorem L_s_VecScale {k : Int} {a : List Int} (ha : Sm a) : ∃ (r : List Int) (s : Bool), (Pr s_VecScale [.int k, vI a] ∧ G s_VecScale [.int k, vI a] = [vI r, .bool s]) ∧ r.length ≤ a.length ∧ r.all fixOk = true ∧ (vecOk a = true ∧ fixOk k = true → r.length = a.length) := by
  have := g_s_VecScale (ds := [.int k, vI a]) (Q := VBx a.length (vecOk a = true ∧ fixOk k = true) a.length) (by
    unfold t_s_VecScale
    refine wp_loop (IV a.length) rfl a.length .start ?_
    rintro m _ ⟨j, s, r, rfl, hr, hj, rfl⟩
    have e := L_s_VecOk ha
    unfold Sm at ha
    by_cases hlt : j < a.length
    · cases hp : vecOk a with
      | true =>
        obtain ⟨x, hx⟩ := at_some hlt
        obtain ⟨z, t, ez, zx⟩ := L_s_FixMul (x := k) (y := x)
        rw [hp] at e
        simp [-getElem?_pos, hlt, hx, e, ez, mk1, vI_push]
        split
        · exact ⟨by omega, IV.again (wS (by omega)) hr zx hlt⟩
        · rename_i hk
          exact .mk (by omega) hr.2 fun h => by simp_all
      | false =>
        rw [hp] at e
        simp [hlt, e]
        exact .mk (by omega) hr.2 fun h => by simp_all
    · simp [hlt]
      exact .mk (by omega) hr.2 fun _ => by omega)
  obtain ⟨h1, x, b, h2, h3⟩ := this
  exact ⟨x, b, ⟨h1, h2⟩, h3⟩

end Go.Sx
