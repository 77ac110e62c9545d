/-
  What the program's functions compute, as plain data: each from its tree.
-/
import Derived.Test.YtnglgoloeabbeaaRaD
namespace Go.Sx
open Go
set_option linter.unusedSimpArgs false
set_option linter.unusedVariables false


theorem mul_lt {a b c d : Int} (h1 : 0 ≤ a ∧ a < b) (h2 : 0 ≤ c ∧ c < d) : 0 ≤ a * d + c ∧ a * d + c < b * d := by
  have h3 : (a + 1) * d ≤ b * d := Int.mul_le_mul_of_nonneg_right (by omega) (by omega)
  have h4 : 0 ≤ a * d := Int.mul_nonneg h1.1 (by omega)
  rw [Int.add_mul] at h3
  omega
theorem vI_slice {l : List Int} {a b : Nat} : D.sl (((vI l).l.take b).drop a) = vI ((l.take b).drop a) := by simp [vI]

/-- A row of a matrix that is all right. -/
theorem L_s_l4Row {i o j : Int} {p : List Int} (h : matOk i o p = true) (hj : 0 ≤ j ∧ j < i) : ∃ r : List Int, (Pr s_l4Row [.int i, .int o, vI p, .int j] ∧ G s_l4Row [.int i, .int o, vI p, .int j] = [vI r]) ∧ r.length = o.toNat := by
  obtain ⟨h1, h2, h3, _⟩ := matOk_iff.mp h
  have m := mul36 h1 h2
  have k0 : 0 ≤ j * o := Int.mul_nonneg hj.1 (by omega)
  have k1 : (j + 1) * o ≤ i * o := Int.mul_le_mul_of_nonneg_right (by omega) (by omega)
  have k2 : (j + 1) * o = j * o + o := by rw [Int.add_mul]; omega
  have := g_s_l4Row (ds := [.int i, .int o, vI p, .int j]) (Q := fun q => ∃ r : List Int, q = [vI r] ∧ r.length = o.toNat) (by
    unfold t_s_l4Row
    have w1 : IntKind.wrap .i64 (j * o) = j * o := w64 (by omega) (by omega)
    have w2 : IntKind.wrap .i64 (j + 1) = j + 1 := w64 (by omega) (by omega)
    have w3 : IntKind.wrap .i64 ((j + 1) * o) = (j + 1) * o := w64 (by omega) (by omega)
    simp [w1, w2, w3, vI_slice]
    refine ⟨k0, by omega, by omega, _, rfl, ?_⟩
    simp
    omega)
  obtain ⟨h1, r, h2, h3⟩ := this
  exact ⟨r, ⟨h1, h2⟩, h3⟩

theorem L_s_l3Pair {a b : List Int} (ha : Sm a) (hb : Sm b) : Pr s_l3Pair [vI a, vI b] ∧ G s_l3Pair [vI a, vI b] = [.bool (vecOk a && vecOk b && decide (a.length = b.length))] :=
  g_s_l3Pair (Q := fun q => q = _) (by
    unfold t_s_l3Pair
    simp [L_s_VecOk ha, L_s_VecOk hb]
    cases vecOk a <;> cases vecOk b <;> simp
    rw [Bool.eq_iff_iff]
    simp
    omega)

def l2Sat (x : Int) : Int × Bool := if 2147483647 < x then (2147483647, true) else if x < -2147483647 then (-2147483647, true) else (x, false)
@[simp] theorem L_s_l2Sat {x : Int} : Pr s_l2Sat [.int x] ∧ G s_l2Sat [.int x] = [.int (l2Sat x).1, .bool (l2Sat x).2] :=
  g_s_l2Sat (Q := fun q => q = _) (by
    unfold t_s_l2Sat l2Sat
    simp
    by_cases h1 : 2147483647 < x
    · simp [h1]
    · by_cases h2 : x < -2147483647 <;> simp [h1, h2])
def l2In (x : Int) : Int := (l2Sat x).1
theorem l2In_le {x : Int} : -2147483647 ≤ l2In x ∧ l2In x ≤ 2147483647 := by
  unfold l2In l2Sat
  split
  · simp
  · split
    · simp
    · simp; omega
@[simp] theorem L_s_l2In {x : Int} : Pr s_l2In [.int x] ∧ G s_l2In [.int x] = [.int (l2In x)] :=
  g_s_l2In (Q := fun q => q = _) (by unfold t_s_l2In; simp [l2In])
theorem L_s_l2Floor {x y : Int} (hy : y ≠ 0) : ∃ z : Int, Pr s_l2Floor [.int x, .int y] ∧ G s_l2Floor [.int x, .int y] = [.int z] := by
  have := g_s_l2Floor (ds := [.int x, .int y]) (Q := fun q => ∃ z : Int, q = [.int z]) (by
    unfold t_s_l2Floor
    simp [hy]
    omega)
  obtain ⟨h1, r, h2⟩ := this
  exact ⟨r, h1, h2⟩

/-- A number and a truth value. -/
theorem L_s_FixMul {x y : Int} : ∃ (z : Int) (b : Bool), Pr s_FixMul [.int x, .int y] ∧ G s_FixMul [.int x, .int y] = [.int z, .bool b] := by
  obtain ⟨z, e⟩ := L_s_l2Floor (x := IntKind.wrap .i64 (l2In x * l2In y)) (y := 65536) (by omega)
  exact ⟨_, _, g_s_FixMul (Q := fun q => q = _) (by unfold t_s_FixMul; simp [e]; exact ⟨rfl, rfl⟩)⟩

def fixAdd (x y : Int) : Int × Bool := l2Sat (l2In x + l2In y)
@[simp] theorem L_s_FixAdd {x y : Int} : Pr s_FixAdd [.int x, .int y] ∧ G s_FixAdd [.int x, .int y] = [.int (fixAdd x y).1, .bool (fixAdd x y).2] :=
  g_s_FixAdd (Q := fun q => q = _) (by
    have h1 := @l2In_le x
    have h2 := @l2In_le y
    have w : IntKind.wrap .i64 (l2In x + l2In y) = l2In x + l2In y := w64 (by omega) (by omega)
    unfold t_s_FixAdd
    simp [w, fixAdd])
@[simp] theorem L_s_FixSub {x y : Int} : Pr s_FixSub [.int x, .int y] ∧ G s_FixSub [.int x, .int y] = [.int (l2Sat (l2In x - l2In y)).1, .bool (l2Sat (l2In x - l2In y)).2] :=
  g_s_FixSub (Q := fun q => q = _) (by
    have h1 := @l2In_le x
    have h2 := @l2In_le y
    have w : IntKind.wrap .i64 (l2In x - l2In y) = l2In x - l2In y := w64 (by omega) (by omega)
    unfold t_s_FixSub
    simp [w])

/-- A vector and a truth value. -/
def VB (n : Nat) (q : List D) : Prop := ∃ (l : List Int) (b : Bool), q = [vI l, .bool b] ∧ l.length ≤ n
theorem VB.mk {n : Nat} {l : List Int} {b : Bool} (h : l.length ≤ n) : VB n [vI l, .bool b] := ⟨l, b, rfl, h⟩

def IV (n : Nat) (k : Nat) (vs : List D) : Prop := ∃ (j : Nat) (b : Bool) (r : List Int), vs = [.int j, .bool b, vI r] ∧ r.length = j ∧ j ≤ n ∧ k = n - j
theorem IV.start {n : Nat} {b : Bool} : IV n n [.int 0, .bool b, vI []] := ⟨0, b, [], rfl, rfl, Nat.zero_le _, rfl⟩
theorem IV.again {n j : Nat} {b : Bool} {r : List Int} {i : Int} (hi : i = ((j + 1 : Nat) : Int)) (hr : r.length = j + 1) (hj : j < n) : ∃ k', k' < n - j ∧ IV n k' [.int i, .bool b, vI r] :=
  ⟨n - (j + 1), by omega, j + 1, b, r, by rw [hi], hr, hj, rfl⟩
def IN (n : Nat) (k : Nat) (vs : List D) : Prop := ∃ (j : Nat) (b : Bool) (x : Int), vs = [.int j, .bool b, .int x] ∧ j ≤ n ∧ k = n - j
theorem IN.start {n : Nat} {b : Bool} {x : Int} : IN n n [.int 0, .bool b, .int x] := ⟨0, b, x, rfl, Nat.zero_le _, rfl⟩
theorem IN.again {n j : Nat} {b : Bool} {x : Int} {i : Int} (hi : i = ((j + 1 : Nat) : Int)) (hj : j < n) : ∃ k', k' < n - j ∧ IN n k' [.int i, .bool b, .int x] :=
  ⟨n - (j + 1), by omega, j + 1, b, x, by rw [hi], hj, rfl⟩
def IL (n : Nat) (k : Nat) (vs : List D) : Prop := ∃ (j : Nat) (r : List Int), vs = [.int j, vI r] ∧ r.length = j ∧ j ≤ n ∧ k = n - j
theorem IL.start {n : Nat} : IL n n [.int 0, vI []] := ⟨0, [], rfl, rfl, Nat.zero_le _, rfl⟩
theorem IL.again {n j : Nat} {r : List Int} {i : Int} (hi : i = ((j + 1 : Nat) : Int)) (hr : r.length = j + 1) (hj : j < n) : ∃ k', k' < n - j ∧ IL n k' [.int i, vI r] :=
  ⟨n - (j + 1), by omega, j + 1, r, by rw [hi], hr, hj, rfl⟩
def NB (q : List D) : Prop := ∃ (x : Int) (b : Bool), q = [.int x, .bool b]
theorem NB.mk {x : Int} {b : Bool} : NB [.int x, .bool b] := ⟨x, b, rfl⟩
def VL (n : Nat) (q : List D) : Prop := ∃ l : List Int, q = [vI l] ∧ l.length ≤ n
theorem VL.mk {n : Nat} {l : List Int} (h : l.length ≤ n) : VL n [vI l] := ⟨l, rfl, h⟩

theorem L_s_VecDot {a b : List Int} (ha : Sm a) (hb : Sm b) : ∃ (x : Int) (s : Bool), Pr s_VecDot [vI a, vI b] ∧ G s_VecDot [vI a, vI b] = [.int x, .bool s] := by
  have := g_s_VecDot (ds := [vI a, vI b]) (Q := NB) (by
    unfold t_s_VecDot
    refine wp_loop (IN a.length) rfl a.length .start ?_
    rintro m _ ⟨j, s, x, rfl, hj, rfl⟩
    have e := L_s_l3Pair ha hb
    unfold Sm at ha hb
    by_cases hlt : j < a.length
    · by_cases hp : (vecOk a && vecOk b && decide (a.length = b.length)) = true
      · have hl : a.length = b.length := by simp at hp; exact hp.2
        obtain ⟨x, hx⟩ := at_some hlt
        obtain ⟨y, hy⟩ := at_some (l := b) (n := j) (by omega)
        obtain ⟨z, t, ez⟩ := L_s_FixMul (x := x) (y := y)
        rw [hp] at e
        simp [-getElem?_pos, hlt, hx, hy, e, ez, ← hl]
        exact ⟨by cases s <;> cases t <;> simp, IN.again (wS (by omega)) hlt⟩
      · rw [Bool.not_eq_true] at hp
        rw [hp] at e
        simp [hlt, e]
        exact .mk
    · simp [hlt]
      exact .mk)
  obtain ⟨h1, x, b, h2⟩ := this
  exact ⟨x, b, h1, h2⟩

theorem L_s_MatVec {i o : Int} {p l : List Int} (hp : Sm p) (hl : Sm l) : ∃ (r : List Int) (s : Bool), (Pr s_MatVec [.int i, .int o, vI p, vI l] ∧ G s_MatVec [.int i, .int o, vI p, vI l] = [vI r, .bool s]) ∧ r.length ≤ 6 := by
  have := g_s_MatVec (ds := [.int i, .int o, vI p, vI l]) (Q := VB 6) (by
    unfold t_s_MatVec
    simp [L_s_MatOk hp, L_s_VecOk hl]
    refine ⟨by cases matOk i o p <;> cases vecOk l <;> simp, ?_⟩
    split
    · exact VB.mk (l := []) (by simp)
    · rename_i hc
      simp only [Classical.not_imp, Decidable.not_not] at hc
      obtain ⟨hm, hv, hlo⟩ := hc
      have hm' := matOk_iff.mp hm
      refine wp_loop (IV i.toNat) rfl i.toNat .start ?_
      rintro m _ ⟨j, s, r, rfl, hr, hj, rfl⟩
      by_cases hlt : (j : Int) < i
      · obtain ⟨w, e, hw⟩ := L_s_l4Row (j := (j : Int)) hm ⟨by omega, hlt⟩
        obtain ⟨x, t, e2⟩ := L_s_VecDot (a := w) (b := l) (by unfold Sm; omega) hl
        simp [hlt, e, e2, mk1, vI_push]
        exact ⟨by omega, IV.again (wS (by omega)) (by simp; omega) (by omega)⟩
      · simp [hlt]
        exact .mk (by omega))
  obtain ⟨h1, x, b, h2, h3⟩ := this
  exact ⟨x, b, ⟨h1, h2⟩, h3⟩

theorem L_s_VecAdd {a b : List Int} (ha : Sm a) (hb : Sm b) : ∃ (r : List Int) (s : Bool), (Pr s_VecAdd [vI a, vI b] ∧ G s_VecAdd [vI a, vI b] = [vI r, .bool s]) ∧ r.length ≤ a.length := by
  have := g_s_VecAdd (ds := [vI a, vI b]) (Q := VB a.length) (by
    unfold t_s_VecAdd
    refine wp_loop (IV a.length) rfl a.length .start ?_
    rintro m _ ⟨j, s, r, rfl, hr, hj, rfl⟩
    have e := L_s_l3Pair ha hb
    unfold Sm at ha hb
    by_cases hlt : j < a.length
    · by_cases hp : (vecOk a && vecOk b && decide (a.length = b.length)) = true
      · have hl : a.length = b.length := by simp at hp; exact hp.2
        obtain ⟨x, hx⟩ := at_some hlt
        obtain ⟨y, hy⟩ := at_some (l := b) (n := j) (by omega)
        rw [hp] at e
        simp [-getElem?_pos, hlt, hx, hy, e, mk1, vI_push, ← hl]
        exact ⟨by omega, IV.again (wS (by omega)) (by simp; omega) hlt⟩
      · rw [Bool.not_eq_true] at hp
        rw [hp] at e
        simp [hlt, e]
        exact .mk (by omega)
    · simp [hlt]
      exact .mk (by omega))
  obtain ⟨h1, x, b, h2, h3⟩ := this
  exact ⟨x, b, ⟨h1, h2⟩, h3⟩

theorem L_s_VecSub {a b : List Int} (ha : Sm a) (hb : Sm b) : ∃ (r : List Int) (s : Bool), (Pr s_VecSub [vI a, vI b] ∧ G s_VecSub [vI a, vI b] = [vI r, .bool s]) ∧ r.length ≤ a.length := by
  have := g_s_VecSub (ds := [vI a, vI b]) (Q := VB a.length) (by
    unfold t_s_VecSub
    refine wp_loop (IV a.length) rfl a.length .start ?_
    rintro m _ ⟨j, s, r, rfl, hr, hj, rfl⟩
    have e := L_s_l3Pair ha hb
    unfold Sm at ha hb
    by_cases hlt : j < a.length
    · by_cases hp : (vecOk a && vecOk b && decide (a.length = b.length)) = true
      · have hl : a.length = b.length := by simp at hp; exact hp.2
        obtain ⟨x, hx⟩ := at_some hlt
        obtain ⟨y, hy⟩ := at_some (l := b) (n := j) (by omega)
        rw [hp] at e
        simp [-getElem?_pos, hlt, hx, hy, e, mk1, vI_push, ← hl]
        exact ⟨by omega, IV.again (wS (by omega)) (by simp; omega) hlt⟩
      · rw [Bool.not_eq_true] at hp
        rw [hp] at e
        simp [hlt, e]
        exact .mk (by omega)
    · simp [hlt]
      exact .mk (by omega))
  obtain ⟨h1, x, b, h2, h3⟩ := this
  exact ⟨x, b, ⟨h1, h2⟩, h3⟩

@[simp] theorem L_s_Relu {x : Int} : Pr s_Relu [.int x] ∧ G s_Relu [.int x] = [.int (if l2In x > 0 then l2In x else 0)] :=
  g_s_Relu (Q := fun q => q = _) (by unfold t_s_Relu; simp)

theorem L_s_VecRelu {a : List Int} (ha : Sm a) : ∃ r : List Int, (Pr s_VecRelu [vI a] ∧ G s_VecRelu [vI a] = [vI r]) ∧ r.length ≤ a.length := by
  have := g_s_VecRelu (ds := [vI a]) (Q := VL a.length) (by
    unfold t_s_VecRelu
    refine wp_loop (IL a.length) rfl a.length .start ?_
    rintro m _ ⟨j, r, rfl, hr, hj, rfl⟩
    have e := L_s_VecOk ha
    unfold Sm at ha
    by_cases hlt : j < a.length
    · cases hp : vecOk a with
      | true =>
        obtain ⟨x, hx⟩ := at_some hlt
        rw [hp] at e
        simp [-getElem?_pos, hlt, hx, e, mk1, vI_push]
        exact ⟨by omega, IL.again (wS (by omega)) (by simp; omega) hlt⟩
      | false =>
        rw [hp] at e
        simp [hlt, e]
        exact .mk (by omega)
    · simp [hlt]
      exact .mk (by omega))
  obtain ⟨h1, x, h2, h3⟩ := this
  exact ⟨x, ⟨h1, h2⟩, h3⟩

theorem L_s_VecScale {k : Int} {a : List Int} (ha : Sm a) : ∃ (r : List Int) (s : Bool), (Pr s_VecScale [.int k, vI a] ∧ G s_VecScale [.int k, vI a] = [vI r, .bool s]) ∧ r.length ≤ a.length := by
  have := g_s_VecScale (ds := [.int k, vI a]) (Q := VB a.length) (by
    unfold t_s_VecScale
    refine wp_loop (IV a.length) rfl a.length .start ?_
    rintro m _ ⟨j, s, r, rfl, hr, hj, rfl⟩
    have e := L_s_VecOk ha
    unfold Sm at ha
    by_cases hlt : j < a.length
    · cases hp : vecOk a with
      | true =>
        obtain ⟨x, hx⟩ := at_some hlt
        obtain ⟨z, t, ez⟩ := L_s_FixMul (x := k) (y := x)
        rw [hp] at e
        simp [-getElem?_pos, hlt, hx, e, ez, mk1, vI_push]
        split
        · exact ⟨by omega, IV.again (wS (by omega)) (by simp; omega) hlt⟩
        · exact .mk (by omega)
      | false =>
        rw [hp] at e
        simp [hlt, e]
        exact .mk (by omega)
    · simp [hlt]
      exact .mk (by omega))
  obtain ⟨h1, x, b, h2, h3⟩ := this
  exact ⟨x, b, ⟨h1, h2⟩, h3⟩

end Go.Sx
