/-
  What the program's functions compute, as plain data: each from its tree.
-/
import Derived.Test.YtnglgoloeabbeaaXsJ
namespace Go.Sx
open Go
set_option linter.unusedSimpArgs false
set_option linter.unusedVariables false


@[simp] theorem L_i_OpSize {k i o : Int} {p : D} : Pr i_OpSize [.int k, .int i, .int o, p] ∧ G i_OpSize [.int k, .int i, .int o, p] = [.int (opSize k i o)] :=
  g_i_OpSize (Q := fun q => q = _) (by
    unfold t_i_OpSize opSize
    by_cases h : (1 ≤ i ∧ i ≤ 6) ∧ (1 ≤ o ∧ o ≤ 6)
    · have := mul36 h.1 h.2
      have hw : IntKind.wrap .i64 (i * o) = i * o := w64 (by omega) (by omega)
      have n1 : ¬ i < 1 := by omega
      have n2 : ¬ 6 < i := by omega
      have n3 : ¬ o < 1 := by omega
      have n4 : ¬ 6 < o := by omega
      by_cases k1 : k = 1
      · simp [h, k1, hw, n1, n2, n3, n4]
      · by_cases k5 : k = 5
        · simp [h, k5, hw, n1, n2, n3, n4]
        · by_cases k2 : k = 2
          · simp [h, k2, n1, n2, n3, n4]
          · by_cases k4 : k = 4 <;> simp [h, k1, k5, k2, k4, n1, n2, n3, n4]
    · rw [if_pos (by omega)]
      simp
      refine ⟨by omega, by omega, by omega, ?_⟩
      intro a1 a2 a3 a4
      exact absurd ⟨⟨a1, a2⟩, a3, a4⟩ h)

theorem L_i_allFix {p : List Int} (hp : Sm p) : Pr i_allFix [vI p] ∧ G i_allFix [vI p] = [.bool (p.all fixOk)] :=
  g_i_allFix (Q := fun q => q = _) (by
    unfold t_i_allFix
    refine wp_loop (fun m vs => ∃ j : Nat, vs = [.int j] ∧ j ≤ p.length ∧ (p.take j).all fixOk = true ∧ m = p.length - j) rfl p.length ⟨0, rfl, by omega, by simp, by omega⟩ ?_
    rintro m _ ⟨j, rfl, hj, ha, rfl⟩
    unfold Sm at hp
    by_cases hlt : j < p.length
    · obtain ⟨x, hx⟩ := at_some hlt
      simp [-getElem?_pos, -List.all_eq_true, -List.all_eq_false, hlt, hx]
      split
      · rename_i hf
        rw [wS (by omega)]
        refine ⟨_, by omega, j + 1, rfl, by omega, ?_, rfl⟩
        have := all_step (p := fixOk) hx
        rw [ha] at this
        simpa [hf] using this
      · rename_i hf
        rw [all_miss hx (by simpa using hf)]
    · have : j = p.length := by omega
      subst this
      rw [List.take_length] at ha
      simp [-List.all_eq_true, ha])

theorem opOk_eq {k i o : Int} {p : List Int} (h : ((1 ≤ k ∧ k ≤ 5) ∧ (1 ≤ i ∧ i ≤ 6) ∧ (1 ≤ o ∧ o ≤ 6)) ∧ (k = 1 ∨ i = o)) : opOk ⟨k, i, o, p⟩ = (decide ((p.length : Int) = opSize k i o) && p.all fixOk) := by
  rw [Bool.eq_iff_iff, opOk_iff, Bool.and_eq_true, decide_eq_true_eq]
  exact ⟨fun a => ⟨a.2.2.2.2.1, a.2.2.2.2.2⟩, fun a => ⟨h.1.1, h.1.2.1, h.1.2.2, h.2, a.1, a.2⟩⟩
theorem opOk_no {k i o : Int} {p : List Int} (h : ¬ (((1 ≤ k ∧ k ≤ 5) ∧ (1 ≤ i ∧ i ≤ 6) ∧ (1 ≤ o ∧ o ≤ 6)) ∧ (k = 1 ∨ i = o))) : opOk ⟨k, i, o, p⟩ = false := by
  rw [Bool.eq_false_iff]
  intro a
  have := opOk_iff.mp a
  exact h ⟨⟨this.1, this.2.1, this.2.2.1⟩, this.2.2.2.1⟩

theorem L_i_OpOk {k i o : Int} {p : List Int} (hp : Sm p) : Pr i_OpOk [.int k, .int i, .int o, vI p] ∧ G i_OpOk [.int k, .int i, .int o, vI p] = [.bool (opOk ⟨k, i, o, p⟩)] :=
  g_i_OpOk (Q := fun q => q = _) (by
    unfold t_i_OpOk
    by_cases h : ((1 ≤ k ∧ k ≤ 5) ∧ (1 ≤ i ∧ i ≤ 6) ∧ (1 ≤ o ∧ o ≤ 6)) ∧ (k = 1 ∨ i = o)
    · rw [opOk_eq h]
      obtain ⟨⟨h1, h2, h3⟩, h4⟩ := h
      have n1 : ¬ k < 1 := by omega
      have n2 : ¬ 5 < k := by omega
      have n3 : ¬ i < 1 := by omega
      have n4 : ¬ 6 < i := by omega
      have n5 : ¬ o < 1 := by omega
      have n6 : ¬ 6 < o := by omega
      simp [-List.all_eq_true, n1, n2, n3, n4, n5, n6, L_i_allFix hp]
      refine ⟨by omega, ?_⟩
      rw [if_neg (by omega)]
      omega
    · rw [opOk_no h]
      simp
      refine ⟨by omega, by omega, by omega, by omega, by omega, ?_⟩
      intro a1 a2 a3 a4 a5 a6
      exact ⟨by omega, fun hh => absurd ⟨⟨⟨a1, a2⟩, ⟨a3, a4⟩, a5, a6⟩, Decidable.or_iff_not_imp_left.mpr hh⟩ h⟩)

/-- A model's operations fit. -/
theorem L_i_ModelOk {l : List OpS} (hl : Sm l) (ho : ∀ o ∈ l, o.p.length ≤ 1048576) : ∃ b : Bool, (Pr i_ModelOk [vO l] ∧ G i_ModelOk [vO l] = [.bool b]) ∧ (b = true ↔ ModelP l) := by
  have := g_i_ModelOk (ds := [vO l]) (Q := BP (ModelP l)) (by
    unfold t_i_ModelOk
    unfold Sm at hl
    simp
    refine ⟨by omega, ?_⟩
    split
    · exact BP.ff fun hp => by have := hp.1; omega
    rename_i h8
    refine wp_loop (fun m vs => ∃ j : Nat, vs = [.int j] ∧ j ≤ l.length ∧ (∀ o ∈ l.take j, opOk o = true) ∧ (∀ (i : Nat) (x y : OpS), i + 1 < j → l[i]? = some x → l[i + 1]? = some y → y.i = x.o) ∧ m = l.length - j) rfl l.length ⟨0, rfl, by omega, by simp, by intro i x y h; omega, by omega⟩ ?_
    rintro m _ ⟨j, rfl, hj, ha, hch, rfl⟩
    by_cases hlt : j < l.length
    · obtain ⟨x, hx⟩ := at_some hlt
      have e := L_i_OpOk (k := x.k) (i := x.i) (o := x.o) (p := x.p) (ho _ (List.mem_of_getElem? hx))
      have wj : IntKind.wrap .i64 ((j : Int) - 1) = (j : Int) - 1 := w64 (by omega) (by omega)
      cases hxo : opOk ⟨x.k, x.i, x.o, x.p⟩ with
      | false =>
        rw [hxo] at e
        simp [-getElem?_pos, hlt, cel_vO0 hx, cel_vO1 hx, cel_vO2 hx, cel_vO3 hx, e, wj]
        refine BP.ff fun hp => ?_
        have := hp.2.1 x (List.mem_of_getElem? hx)
        have e : x = ⟨x.k, x.i, x.o, x.p⟩ := rfl
        rw [e, hxo] at this
        cases this
      | true =>
        rw [hxo] at e
        by_cases h0 : 0 < j
        · obtain ⟨y, hy⟩ := at_some (l := l) (n := j - 1) (by omega)
          have cy := cel_vO2 hy
          have cj : (((j - 1 : Nat) : Int)) = (j : Int) - 1 := by omega
          rw [cj] at cy
          by_cases hc : y.o = x.i
          · simp [-getElem?_pos, hlt, cel_vO0 hx, cel_vO1 hx, cel_vO2 hx, cel_vO3 hx, e, wj, h0, cy]
            rw [if_pos hc]
            refine ⟨by omega, by omega, _, by omega, j + 1, wS (by omega), by omega, forall_step ha hx hxo, ?_, rfl⟩
            intro i u v hi hu hv
            by_cases hij : i + 1 < j
            · exact hch i u v hij hu hv
            · have : i = j - 1 := by omega
              subst this
              rw [hy] at hu
              rw [show j - 1 + 1 = j by omega, hx] at hv
              cases hu
              cases hv
              exact hc.symm
          · simp [-getElem?_pos, hlt, cel_vO0 hx, cel_vO1 hx, cel_vO2 hx, cel_vO3 hx, e, wj, h0, cy]
            rw [if_neg hc]
            refine ⟨by omega, by omega, BP.ff fun hp => hc ?_⟩
            exact (hp.2.2 (j - 1) y x hy (by rw [show j - 1 + 1 = j by omega]; exact hx)).symm
        · have nj : j = 0 := by omega
          simp [-getElem?_pos, hlt, cel_vO0 hx, cel_vO1 hx, cel_vO2 hx, cel_vO3 hx, e, h0]
          exact ⟨_, by omega, j + 1, wS (by omega), by omega, forall_step ha hx hxo, by intro i u v hi; omega, rfl⟩
    · have : j = l.length := by omega
      subst this
      rw [List.take_length] at ha
      simp
      exact BP.tt ⟨by omega, ha, fun i u v hu hv => hch i u v (lt_of_at hv) hu hv⟩)
  obtain ⟨h1, x, h2, h3⟩ := this
  exact ⟨x, ⟨h1, h2⟩, h3⟩


theorem L_i_gradsFit {l : List OpS} {r : List (List Int)} (hl : Sm l) : ∃ b : Bool, (Pr i_gradsFit [vO l, vR r] ∧ G i_gradsFit [vO l, vR r] = [.bool b]) ∧ (b = true ↔ FitP l r) := by
  have := g_i_gradsFit (ds := [vO l, vR r]) (Q := BP (FitP l r)) (by
    unfold t_i_gradsFit
    unfold Sm at hl
    by_cases hn : r.length = l.length
    · simp [hn]
      refine wp_loop (fun m vs => ∃ j : Nat, vs = [.int j] ∧ j ≤ l.length ∧ (∀ (i : Nat) (x : OpS) (y : List Int), i < j → l[i]? = some x → r[i]? = some y → y.length = x.p.length) ∧ m = l.length - j) rfl l.length ⟨0, rfl, by omega, by intro i x y h; omega, by omega⟩ ?_
      rintro m _ ⟨j, rfl, hj, ha, rfl⟩
      by_cases hlt : j < l.length
      · obtain ⟨u, hu⟩ := at_some hlt
        obtain ⟨v, hv⟩ := at_some (l := r) (n := j) (by omega)
        by_cases hc : v.length = u.p.length
        · simp [-getElem?_pos, hlt, cel_vO3 hu, cel_vR hv, hn, hc]
          refine ⟨_, by omega, j + 1, wS (by omega), by omega, ?_, rfl⟩
          intro i x y hi hx hy
          by_cases hij : i < j
          · exact ha i x y hij hx hy
          · have : i = j := by omega
            subst this
            rw [hu] at hx
            rw [hv] at hy
            cases hx
            cases hy
            exact hc
        · have hc' : ¬ (v.length : Int) = u.p.length := by omega
          simp [-getElem?_pos, hlt, cel_vO3 hu, cel_vR hv, hn, hc]
          rw [if_neg hc']
          refine BP.ff (p := FitP l r) fun hp => ?_
          exact hc (hp.2 j u v hu hv)
      · have : j = l.length := by omega
        subst this
        simp
        exact BP.tt ⟨hn, fun i x y hx hy => ha i x y (lt_of_at hx) hx hy⟩
    · have hn' : ¬ (r.length : Int) = l.length := by omega
      simp [hn']
      exact BP.ff fun hp => hn hp.1)
  obtain ⟨h1, x, h2, h3⟩ := this
  exact ⟨x, ⟨h1, h2⟩, h3⟩

theorem prod_le {x y : Int} : -4611686014132420609 ≤ l2In x * l2In y ∧ l2In x * l2In y ≤ 4611686014132420609 := by
  have h1 := @l2In_le x
  have h2 := @l2In_le y
  have h3 : (l2In x * l2In y).natAbs ≤ 2147483647 * 2147483647 := by
    rw [Int.natAbs_mul]
    exact Nat.mul_le_mul (by omega) (by omega)
  omega
def fixMul (x y : Int) : Int × Bool := l2Sat ((l2In x * l2In y).fdiv 65536)
@[simp] theorem L_i_FixMul {x y : Int} : Pr i_FixMul [.int x, .int y] ∧ G i_FixMul [.int x, .int y] = [.int (fixMul x y).1, .bool (fixMul x y).2] :=
  g_i_FixMul (Q := fun q => q = _) (by
    have h := @prod_le x y
    have w : IntKind.wrap .i64 (l2In x * l2In y) = l2In x * l2In y := w64 (by omega) (by omega)
    have s : (2 : Int) ^ min 16 IntKind.i64.bits = 65536 := by decide
    unfold t_i_FixMul
    simp [w, s, fixMul])
def fixSub (x y : Int) : Int × Bool := l2Sat (l2In x - l2In y)
@[simp] theorem L_i_FixSub {x y : Int} : Pr i_FixSub [.int x, .int y] ∧ G i_FixSub [.int x, .int y] = [.int (fixSub x y).1, .bool (fixSub x y).2] :=
  g_i_FixSub (Q := fun q => q = _) (by
    have h1 := @l2In_le x
    have h2 := @l2In_le y
    have w : IntKind.wrap .i64 (l2In x - l2In y) = l2In x - l2In y := w64 (by omega) (by omega)
    unfold t_i_FixSub
    simp [w, fixSub])

end Go.Sx
