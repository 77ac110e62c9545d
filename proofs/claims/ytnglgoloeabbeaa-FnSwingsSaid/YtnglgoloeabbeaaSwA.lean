/-
  What the program's functions compute, as plain data: each from its tree.
-/
import Derived.Test.YtnglgoloeabbeaaSwK
import Derived.Test.YtnglgoloeabbeaaPA
namespace Go.Sx
open Go
set_option linter.unusedSimpArgs false
set_option linter.unusedVariables false


/-- Is it in the range? -/
def fixOk (x : Int) : Bool := decide (-2147483647 ≤ x ∧ x ≤ 2147483647)
theorem fixOk_of {x : Int} (h : -2147483647 ≤ x ∧ x ≤ 2147483647) : fixOk x = true := by
  unfold fixOk
  exact decide_eq_true h
theorem fixOk_iff {x : Int} : fixOk x = true ↔ (-2147483647 ≤ x ∧ x ≤ 2147483647) := by unfold fixOk; exact decide_eq_true_iff
@[simp] theorem L_w_big {cd : List (List D)} : Pr w_big [.sl cd] ∧ G w_big [.sl cd] = [.bool (decide (1048576 < (cd.length : Int)))] :=
  g_w_big (Q := fun o => o = _) (by simp [t_w_big])

theorem L_s_l1New {cd : List (List D)} (h : cd.length ≤ 1048576) : ∃ x, Pr s_l1New [.sl cd] ∧ G s_l1New [.sl cd] = [.sl cd, .int 0, .int x] := by
  have := g_s_l1New (ds := [.sl cd]) (Q := fun o => ∃ x, o = [.sl cd, .int 0, .int x]) (by
    unfold t_s_l1New
    refine wp_loop (fun k vs => ∃ i x : Int, vs = [.int i, .int x] ∧ 0 ≤ i ∧ i ≤ cd.length ∧ k = (cd.length - i).toNat) rfl cd.length ⟨0, _, rfl, by omega, by omega, by omega⟩ ?_
    rintro k _ ⟨i, x, rfl, h0, h1, rfl⟩
    have hw : IntKind.wrap .i64 (i + 1) = i + 1 := w64 (by omega) (by omega)
    simp [hw]
    by_cases hi : i < cd.length
    · simp [hi]
      intro _
      exact ⟨h0, _, by omega, by omega, by omega, rfl⟩
    · simp [hi]
      omega)
  obtain ⟨h1, x, h2⟩ := this
  exact ⟨x, h1, h2⟩

theorem L_s_l1Byte {cd : List (List D)} {i h : Int} (hc : Cur cd i) : ∃ x i' h' : Int, (Pr s_l1Byte [.sl cd, .int i, .int h] ∧ G s_l1Byte [.sl cd, .int i, .int h] = [.int x, .sl cd, .int i', .int h']) ∧ (0 ≤ x ∧ x ≤ 255) ∧ Cur cd i' := by
  obtain ⟨c0, c1, c2⟩ := hc
  have := g_s_l1Byte (ds := [.sl cd, .int i, .int h]) (Q := fun o => ∃ x i' h' : Int, o = [.int x, .sl cd, .int i', .int h'] ∧ (0 ≤ x ∧ x ≤ 255) ∧ Cur cd i') (by
    unfold t_s_l1Byte
    simp
    split
    · rename_i hi
      rw [w64 (n := i + 1) (by omega) (by omega)]
      exact ⟨c0, hi, _, _, ⟨rfl, rfl⟩, band255 _, ⟨by omega, by omega, c2⟩⟩
    · exact ⟨_, _, ⟨rfl, rfl⟩, band255 _, c0, c1, c2⟩)
  obtain ⟨h1, x, i', h', h2, h3⟩ := this
  exact ⟨x, i', h', ⟨h1, h2⟩, h3⟩

theorem L_s_l1Below {cd : List (List D)} {i h m : Int} (hc : Cur cd i) (hm : m ≤ 1000000) : ∃ x i' h' : Int, (Pr s_l1Below [.sl cd, .int i, .int h, .int m] ∧ G s_l1Below [.sl cd, .int i, .int h, .int m] = [.int x, .sl cd, .int i', .int h']) ∧ (0 ≤ x ∧ (x < m ∨ m ≤ 0 ∧ x = 0)) ∧ Cur cd i' := by
  obtain ⟨x1, i1, h1, e1, b1, c1⟩ := L_s_l1Byte (h := h) hc
  obtain ⟨x2, i2, h2, e2, b2, c2⟩ := L_s_l1Byte (h := h1) c1
  obtain ⟨x3, i3, h3, e3, b3, c3⟩ := L_s_l1Byte (h := h2) c2
  obtain ⟨x4, i4, h4, e4, b4, c4⟩ := L_s_l1Byte (h := h3) c3
  have := g_s_l1Below (ds := [.sl cd, .int i, .int h, .int m]) (Q := fun o => ∃ x i' h' : Int, o = [.int x, .sl cd, .int i', .int h'] ∧ (0 ≤ x ∧ (x < m ∨ m ≤ 0 ∧ x = 0)) ∧ Cur cd i') (by
    unfold t_s_l1Below
    simp [e1, e2, e3, e4]
    split
    · exact ⟨_, _, ⟨rfl, rfl⟩, ⟨by omega, by omega⟩, hc⟩
    · rename_i h0
      have tm : ∀ y : Int, 0 ≤ y → 0 ≤ y.tmod m ∧ y.tmod m < m := fun y hy => ⟨Int.tmod_nonneg _ hy, Int.tmod_lt_of_pos _ (by omega)⟩
      split
      · refine ⟨by omega, _, _, ⟨rfl, rfl⟩, ⟨(tm _ (by omega)).1, .inl (tm _ (by omega)).2⟩, c1⟩
      · rw [w64 (n := x1 * 16777216) (by omega) (by omega), w64 (n := x2 * 65536) (by omega) (by omega), w64 (n := x3 * 256) (by omega) (by omega), w64 (n := x1 * 16777216 + x2 * 65536) (by omega) (by omega),
          w64 (n := x1 * 16777216 + x2 * 65536 + x3 * 256) (by omega) (by omega), w64 (n := x1 * 16777216 + x2 * 65536 + x3 * 256 + x4) (by omega) (by omega)]
        exact ⟨by omega, _, _, ⟨rfl, rfl⟩, ⟨(tm _ (by omega)).1, .inl (tm _ (by omega)).2⟩, c4⟩)
  obtain ⟨h1, x, i', h', h2, h3⟩ := this
  exact ⟨x, i', h', ⟨h1, h2⟩, h3⟩

@[simp] theorem L_s_l1In {a lo hi : Int} : Pr s_l1In [.int a, .int lo, .int hi] ∧ G s_l1In [.int a, .int lo, .int hi] = [.bool (decide (lo ≤ a ∧ a ≤ hi))] :=
  g_s_l1In (Q := fun o => o = _) (by
    unfold t_s_l1In
    by_cases h : lo ≤ a <;> simp [h])

/-- How many numbers an operation has. -/
def opSize (k i o : Int) : Int := if ¬ (1 ≤ i ∧ i ≤ 6) ∨ ¬ (1 ≤ o ∧ o ≤ 6) then 0 else if k = 1 ∨ k = 5 then i * o else if k = 2 then i else if k = 4 then 1 else 0
theorem mul36 {i o : Int} (h1 : 1 ≤ i ∧ i ≤ 6) (h2 : 1 ≤ o ∧ o ≤ 6) : 1 ≤ i * o ∧ i * o ≤ 36 := by
  have h3 : i * o ≤ 6 * 6 := Int.mul_le_mul h1.2 h2.2 (by omega) (by omega)
  have h4 : 1 * 1 ≤ i * o := Int.mul_le_mul h1.1 h2.1 (by omega) (by omega)
  omega

@[simp] theorem L_s_OpSize {k i o : Int} {p : D} : Pr s_OpSize [.int k, .int i, .int o, p] ∧ G s_OpSize [.int k, .int i, .int o, p] = [.int (opSize k i o)] :=
  g_s_OpSize (Q := fun o => o = _) (by
    unfold t_s_OpSize opSize
    by_cases h1 : 1 ≤ i ∧ i ≤ 6
    · by_cases h2 : 1 ≤ o ∧ o ≤ 6
      · have := mul36 h1 h2
        have hw : IntKind.wrap .i64 (i * o) = i * o := w64 (by omega) (by omega)
        by_cases k1 : k = 1
        · simp [h1, h2, k1, hw]
        · by_cases k5 : k = 5
          · simp [h1, h2, k5, hw]
          · by_cases k2 : k = 2
            · simp [h1, h2, k2]
            · by_cases k4 : k = 4 <;> simp [h1, h2, k1, k5, k2, k4]
      · simp [h1, h2]
    · simp [h1])

theorem opSize_le {k i o : Int} : 0 ≤ opSize k i o ∧ opSize k i o ≤ 36 := by
  unfold opSize
  split
  · omega
  · rename_i h
    have h1 : (1 ≤ i ∧ i ≤ 6) ∧ (1 ≤ o ∧ o ≤ 6) := by omega
    have := mul36 h1.1 h1.2
    split
    · omega
    · split
      · omega
      · split <;> omega

theorem L_s_l1PickInt {cd : List (List D)} {i h : Int} {l : List Int} (hc : Cur cd i) (hl : 0 < l.length ∧ l.length ≤ 1000) : ∃ x i' h' : Int, (Pr s_l1PickInt [.sl cd, .int i, .int h, vI l] ∧ G s_l1PickInt [.sl cd, .int i, .int h, vI l] = [.int x, .sl cd, .int i', .int h']) ∧ x ∈ l ∧ Cur cd i' := by
  obtain ⟨x1, i1, h1, e1, b1, c1⟩ := L_s_l1Below (h := h) (m := l.length) hc (by omega)
  have := g_s_l1PickInt (ds := [.sl cd, .int i, .int h, vI l]) (Q := fun o => ∃ x i' h' : Int, o = [.int x, .sl cd, .int i', .int h'] ∧ x ∈ l ∧ Cur cd i') (by
    unfold t_s_l1PickInt
    obtain ⟨y, hy⟩ := at_some (l := l) (n := x1.toNat) (by omega)
    simp [e1, hy]
    exact ⟨by omega, by omega, _, _, ⟨rfl, rfl⟩, List.mem_of_getElem? hy, c1⟩)
  obtain ⟨h1, x, i', h', h2, h3⟩ := this
  exact ⟨x, i', h', ⟨h1, h2⟩, h3⟩

theorem opSize_out {k i o : Int} (h : ¬ (1 ≤ i ∧ i ≤ 6)) : opSize k i o = 0 := by
  unfold opSize
  rw [if_pos (.inl h)]

end Go.Sx
