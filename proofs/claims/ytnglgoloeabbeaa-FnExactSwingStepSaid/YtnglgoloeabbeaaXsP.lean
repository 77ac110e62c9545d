/-
  What the program's functions compute, as plain data: each from its tree.
-/
import Derived.Test.YtnglgoloeabbeaaXsO
namespace Go.Sx
open Go
set_option linter.unusedSimpArgs false
set_option linter.unusedVariables false


/-! ### Multiplying, as the specification does -/

theorem floor_eq {x : Int} : (if ¬ x.tmod 65536 = 0 ∧ x < 0 then x.tdiv 65536 - 1 else x.tdiv 65536) = x.fdiv 65536 := by
  rw [Int.fdiv_eq_ediv_of_nonneg _ (by omega), Int.tdiv_eq_ediv, Int.tmod_eq_emod]
  have hs : (65536 : Int).sign = 1 := rfl
  rw [hs]
  by_cases h : 0 ≤ x ∨ (65536 : Int) ∣ x
  · rw [if_pos h]
    rw [if_pos h]
    rcases h with h | h
    · rw [if_neg (by omega)]
      omega
    · rw [if_neg (by omega)]
      omega
  · rw [if_neg h, if_neg h]
    have h2 : ¬ (65536 : Int) ∣ x := fun a => h (.inr a)
    have h1 : x < 0 := by omega
    rw [if_pos]
    · omega
    · refine ⟨?_, h1⟩
      omega
theorem L_s_l2Floor_x {x : Int} (h : -4611686014132420609 ≤ x ∧ x ≤ 4611686014132420609) : Pr s_l2Floor [.int x, .int 65536] ∧ G s_l2Floor [.int x, .int 65536] = [.int (x.fdiv 65536)] :=
  g_s_l2Floor (Q := fun q => q = _) (by
    unfold t_s_l2Floor
    rw [← floor_eq]
    have t := Int.natAbs_tdiv_le_natAbs x 65536
    have w1 : IntKind.wrap .i64 (x.tdiv 65536) = x.tdiv 65536 := w64 (by omega) (by omega)
    have w2 : IntKind.wrap .i64 (x.tdiv 65536 - 1) = x.tdiv 65536 - 1 := w64 (by omega) (by omega)
    by_cases hx : x < 0
    · simp [hx, w1, w2]
      by_cases h0 : x.tmod 65536 = 0 <;> simp [h0]
    · simp [hx, w1, w2]
      omega)
theorem L_s_FixMul_x {x y : Int} : Pr s_FixMul [.int x, .int y] ∧ G s_FixMul [.int x, .int y] = [.int (fixMul x y).1, .bool (fixMul x y).2] :=
  g_s_FixMul (Q := fun q => q = _) (by
    have h := @prod_le x y
    have w : IntKind.wrap .i64 (l2In x * l2In y) = l2In x * l2In y := w64 (by omega) (by omega)
    have e := L_s_l2Floor_x h
    unfold t_s_FixMul
    simp [w, e, fixMul])
theorem L_s_FixSub_x {x y : Int} : Pr s_FixSub [.int x, .int y] ∧ G s_FixSub [.int x, .int y] = [.int (fixSub x y).1, .bool (fixSub x y).2] := L_s_FixSub

theorem L_s_l11Ops {l : List OpS} (h : Mo l) : Pr s_l11Ops [vO l] ∧ G s_l11Ops [vO l] = [vO l] :=
  g_s_l11Ops (Q := fun q => q = _) (by
    have h1 := h.1
    unfold Sm at h1
    unfold t_s_l11Ops
    refine wp_loop (IOs l) rfl l.length .start ?_
    rintro k _ ⟨j, rfl, hj, rfl⟩
    by_cases hlt : j < l.length
    · obtain ⟨x, hx⟩ := at_some hlt
      have hx' := h.at hx
      simp [-getElem?_pos, hlt, cel_vO0 hx, cel_vO1 hx, cel_vO2 hx, cel_vO3 hx, vI_eta, chunks, vO_push]
      exact ⟨by omega, by omega, IOs.again hx (wS (by omega))⟩
    · have : j = l.length := by omega
      subst this
      simp)

/-- What learning gives. -/
noncomputable def learnD (rate : Int) (l : List OpS) (r : List (List Int)) : List D := @ite _ (LearnP rate l r) (Classical.propDecidable _) [vO (learnM rate l r), .bool (learnS rate l r)] [vO l, .bool false]
theorem learnD_ok {rate : Int} {l : List OpS} {r : List (List Int)} (h : LearnP rate l r) : learnD rate l r = [vO (learnM rate l r), .bool (learnS rate l r)] := by unfold learnD; rw [if_pos h]
theorem learnD_no {rate : Int} {l : List OpS} {r : List (List Int)} (h : ¬ LearnP rate l r) : learnD rate l r = [vO l, .bool false] := by unfold learnD; rw [if_neg h]

theorem vO_set3 {l : List OpS} {n : Nat} {q : List Int} : D.sl ((vO l).l.modify n fun x => x.set 3 (vI q)) = vO (l.modify n fun o => ⟨o.k, o.i, o.o, q⟩) := by
  unfold vO
  simp only [D.l_sl]
  rw [modify_map (h := fun o => ⟨o.k, o.i, o.o, q⟩) (by intro a; rfl)]

theorem Part.step {l c : List OpS} {r : List (List Int)} {rate : Int} {j : Nat} {x : OpS} {g : List Int} (h : Part l r rate j c) (hx : l[j]? = some x) (hg : r[j]? = some g) : Part l r rate (j + 1) (c.modify j fun o => ⟨o.k, o.i, o.o, updV rate x.p g⟩) := by
  refine ⟨by simp [h.1], fun i u v y hu hv hy => ?_⟩
  obtain ⟨z, hz⟩ := at_some (l := c) (n := i) (by have := h.1; have := lt_of_at hu; omega)
  have hz' := h.2 i u v z hu hv hz
  rw [List.getElem?_modify, hz] at hy
  by_cases hi : j = i
  · subst hi
    rw [hx] at hu
    rw [hg] at hv
    cases hu
    cases hv
    rw [if_neg (by omega)] at hz'
    subst hz'
    simp at hy
    rw [if_pos (by omega), ← hy]
    rfl
  · simp [hi] at hy
    subst hy
    rw [hz']
    by_cases h1 : i < j
    · rw [if_pos h1, if_pos (by omega)]
    · rw [if_neg h1, if_neg (by omega)]

def Fitz (l : List OpS) (r : List (List Int)) (j : Nat) : Prop := ∀ (i : Nat) (x : OpS) (y : List Int), i < j → l[i]? = some x → r[i]? = some y → y.length = x.p.length
theorem Fitz.zero {l : List OpS} {r : List (List Int)} : Fitz l r 0 := fun i x y h => by omega
theorem Fitz.step {l : List OpS} {r : List (List Int)} {j : Nat} {u : OpS} {v : List Int} (h : Fitz l r j) (hu : l[j]? = some u) (hv : r[j]? = some v) (hc : v.length = u.p.length) : Fitz l r (j + 1) := by
  intro i x y hi hx hy
  by_cases hij : i < j
  · exact h i x y hij hx hy
  · have : i = j := by omega
    subst this
    rw [hu] at hx
    rw [hv] at hy
    cases hx
    cases hy
    exact hc
theorem Fitz.done {l : List OpS} {r : List (List Int)} (h : Fitz l r l.length) (hn : r.length = l.length) : FitP l r := ⟨hn, fun i x y hx hy => h i x y (lt_of_at hx) hx hy⟩

def ILs (l : List OpS) (r : List (List Int)) (rate : Int) (k : Nat) (vs : List D) : Prop := ∃ (j : Nat) (c : List OpS), vs = [.int j, .bool (anyT ((List.zipWith (fun o g => updS rate o.p g) l r).take j)), vO c] ∧ Part l r rate j c ∧ Fitz l r j ∧ j ≤ l.length ∧ k = l.length - j
def ILt (l : List OpS) (r : List (List Int)) (rate : Int) (j : Nat) (x : OpS) (g : List Int) (c : List OpS) (k : Nat) (vs : List D) : Prop :=
  ∃ i : Nat, vs = [.int j, .int i, .bool (anyT ((List.zipWith (fun o g => updS rate o.p g) l r).take j) || anyT ((List.zipWith (stepS rate) x.p g).take i)), vO c, vI ((List.zipWith (stepN rate) x.p g).take i)] ∧ i ≤ x.p.length ∧ k = x.p.length - i

theorem L_s_Learn {l : List OpS} {r : List (List Int)} {x y : D} {rate : Int} (hmo : Mo l) : Pr s_Learn [vO l, vR r, x, y, .int rate] ∧ G s_Learn [vO l, vR r, x, y, .int rate] = learnD rate l r :=
  g_s_Learn (Q := fun q => q = _) (by
    have e1 := L_s_l11Ops hmo
    obtain ⟨b2, e2, p2⟩ := L_s_ModelOk hmo.1 hmo.2
    have hl := hmo.1
    unfold Sm at hl
    unfold t_s_Learn
    by_cases h : b2 = true ∧ fixOk rate = true ∧ r.length = l.length
    · obtain ⟨rfl, hr, hn⟩ := h
      simp [e1, e2, hr, hn]
      refine wp_loop (ILs l r rate) rfl l.length ⟨0, l, by simp [e1, anyT], .start, .zero, by omega, rfl⟩ ?_
      rintro k _ ⟨j, c, rfl, hc, hfi, hj, rfl⟩
      by_cases hlt : j < l.length
      · obtain ⟨u, hu⟩ := at_some hlt
        obtain ⟨g, hg⟩ := at_some (l := r) (n := j) (by omega)
        by_cases hgl : g.length = u.p.length
        · have hul := hmo.at hu
          simp [-getElem?_pos, hlt, hn, cel_vR hg, cel_vO3 hu, hgl]
          refine wp_loop (ILt l r rate j u g c) rfl u.p.length ⟨0, by simp [anyT, vI], by omega, rfl⟩ ?_
          rintro k _ ⟨i, rfl, hi, rfl⟩
          by_cases hlt2 : i < u.p.length
          · obtain ⟨a, ha⟩ := at_some hlt2
            obtain ⟨b, hb⟩ := at_some (l := g) (n := i) (by omega)
            simp [-getElem?_pos, hlt, hlt2, hn, cel_vR hg, cel_vO3 hu, ha, hb, hgl, L_s_FixMul_x, L_s_FixSub_x, mk1, vI_push]
            refine ⟨by omega, or2 _ _, or3 _ _ _, u.p.length - (i + 1), by omega, i + 1, ?_, by omega, rfl⟩
            rw [wS (by omega), take_step (zip_at ha hb), take_step (zip_at ha hb), anyT_push]
            simp [stepN, stepS, fixSub, Bool.or_assoc]
          · have : i = u.p.length := by omega
            subst this
            have ez : (List.zipWith (stepS rate) u.p g).take u.p.length = List.zipWith (stepS rate) u.p g := List.take_of_length_le (by simp; omega)
            have ey : (List.zipWith (stepN rate) u.p g).take u.p.length = List.zipWith (stepN rate) u.p g := List.take_of_length_le (by simp; omega)
            simp [hlt, cel_vO3 hu, ez, ey, vO_set3, hc.1]
            refine ⟨l.length - (j + 1), by omega, j + 1, _, ?_, hc.step hu hg, hfi.step hu hg hgl, by omega, rfl⟩
            rw [wS (by omega), take_step (zip_at hu hg), anyT_push]
            rfl
        · have hgl' : ¬ (g.length : Int) = u.p.length := by omega
          simp [-getElem?_pos, hlt, hn, cel_vR hg, cel_vO3 hu, e1]
          rw [if_neg hgl']
          rw [learnD_no fun hp => hgl (hp.2.2.2 j u g hu hg)]
      · have : j = l.length := by omega
        subst this
        rw [learnD_ok ⟨p2.mp rfl, hr, hfi.done hn⟩]
        simp
        rw [hc.done hn, List.take_of_length_le (by simp; omega)]
        exact ⟨rfl, rfl⟩
    · have hno : ¬ LearnP rate l r := fun hp => h ⟨p2.mpr hp.1, hp.2.1, hp.2.2.1⟩
      rw [learnD_no hno]
      simp [e1, e2]
      refine ⟨by cases b2 <;> cases fixOk rate <;> simp, ?_⟩
      intro h2 h3 h4
      exact absurd ⟨h2, h3, by omega⟩ h)
theorem L_i_Learn {l : List OpS} {r : List (List Int)} {x y : D} {rate : Int} (hmo : Mo l) : Pr i_Learn [vO l, vR r, x, y, .int rate] ∧ G i_Learn [vO l, vR r, x, y, .int rate] = learnD rate l r := by
  by_cases h : LearnP rate l r
  · rw [learnD_ok h]
    exact L_i_Learn_ok h
  · rw [learnD_no h]
    exact L_i_Learn_no hmo h

end Go.Sx
