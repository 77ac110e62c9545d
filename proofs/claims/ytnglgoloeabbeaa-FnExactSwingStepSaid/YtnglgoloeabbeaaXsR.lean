/-
  What the program's functions compute, as plain data: each from its tree.
-/
import Derived.Test.YtnglgoloeabbeaaXsQ
namespace Go.Sx
open Go
set_option linter.unusedSimpArgs false
set_option linter.unusedVariables false


theorem swN_zero {a b : Int} (h : fixOk b = true) : swN 0 a b = b := by
  have h0 : l2In 0 = 0 := l2In_id (by decide)
  unfold swN
  rw [fixMul_zero]
  unfold fixAdd
  rw [h0, l2In_id h, Int.zero_add]
  exact l2In_id h
theorem fixMul_zero' {b : Int} : fixMul b 0 = (0, false) := by
  have h : l2In 0 = 0 := l2In_id (by decide)
  unfold fixMul
  rw [h, Int.mul_zero]
  decide
theorem swN_zero' {mom b : Int} (h : fixOk b = true) : swN mom 0 b = b := by
  have h0 : l2In 0 = 0 := l2In_id (by decide)
  unfold swN
  rw [fixMul_zero']
  unfold fixAdd
  rw [h0, l2In_id h, Int.zero_add]
  exact l2In_id h
theorem zip_right {f : Int → Int → Int} {a g : List Int} (hf : ∀ x ∈ a, ∀ y ∈ g, f x y = y) (hn : a.length = g.length) : List.zipWith f a g = g := by
  apply List.ext_getElem?
  intro i
  by_cases hi : i < g.length
  · obtain ⟨x, hx⟩ := at_some (l := a) (n := i) (by omega)
    obtain ⟨y, hy⟩ := at_some hi
    rw [zip_at hx hy, hy, hf x (List.mem_of_getElem? hx) y (List.mem_of_getElem? hy)]
  · rw [List.getElem?_eq_none (by simp; omega), List.getElem?_eq_none (by omega)]
theorem velR_right {l : List OpS} {v r : List (List Int)} {mom : Int} (hv : FitP l v) (hr : FitP l r) (hok : AllR r) (h : mom = 0 ∨ v = zerosOf l) : velR mom v r = r := by
  apply List.ext_getElem?
  intro i
  by_cases hi : i < r.length
  · obtain ⟨a, ha⟩ := at_some (l := v) (n := i) (by have := hv.1; have := hr.1; omega)
    obtain ⟨g, hg⟩ := at_some hi
    obtain ⟨o, ho⟩ := at_some (l := l) (n := i) (by have := hr.1; omega)
    have h1 := hv.2 i o a ho ha
    have h2 := hr.2 i o g ho hg
    have hgo := hok g (List.mem_of_getElem? hg)
    unfold velR
    rw [zip_at ha hg, hg]
    congr 1
    unfold velV
    refine zip_right (fun x hx y hy => ?_) (by omega)
    have hyo := List.all_eq_true.mp hgo y hy
    rcases h with rfl | rfl
    · exact swN_zero hyo
    · have : x = 0 := by
        unfold zerosOf at ha
        rw [List.getElem?_map, ho] at ha
        cases ha
        exact List.eq_of_mem_replicate hx
      subst this
      exact swN_zero' hyo
  · rw [List.getElem?_eq_none (by unfold velR; simp; omega), List.getElem?_eq_none (by omega)]
theorem velR_ok {mom : Int} {v r : List (List Int)} : AllR (velR mom v r) := by
  intro y hy
  obtain ⟨j, hj⟩ := List.mem_iff_getElem?.mp hy
  unfold velR at hj
  rw [List.getElem?_zipWith] at hj
  cases h1 : v[j]? with
  | none => simp [h1] at hj
  | some u =>
    cases h2 : r[j]? with
    | none => simp [h1, h2] at hj
    | some w =>
      simp [h1, h2] at hj
      subst hj
      rw [List.all_eq_true]
      intro x hx
      obtain ⟨i, hi⟩ := List.mem_iff_getElem?.mp hx
      unfold velV at hi
      rw [List.getElem?_zipWith] at hi
      cases h3 : u[i]? with
      | none => simp [h3] at hi
      | some p =>
        cases h4 : w[i]? with
        | none => simp [h3, h4] at hi
        | some q =>
          simp [h3, h4] at hi
          subst hi
          exact l2Sat_ok0
theorem FitP.shape {l c : List OpS} {r : List (List Int)} (h : FitP l r) (hs : SameSh l c) : FitP c r := by
  refine ⟨by rw [h.1, hs.1], fun j x y hx hy => ?_⟩
  obtain ⟨u, hu⟩ := at_some (l := l) (n := j) (by have := hs.1; have := lt_of_at hx; omega)
  rw [h.2 j u y hu hy, (hs.2 j u x hu hx).2.2.2]
theorem FitP.Gk {l : List OpS} {r : List (List Int)} (h : FitP l r) (hmo : Mo l) : Gk r := by
  have h1 := hmo.1
  refine ⟨by have := h.1; unfold Sm at *; omega, fun y hy => ?_⟩
  obtain ⟨j, hj⟩ := List.mem_iff_getElem?.mp hy
  obtain ⟨x, hx⟩ := at_some (l := l) (n := j) (by have := h.1; have := lt_of_at hj; omega)
  rw [h.2 j x y hx hj]
  exact hmo.at hx
theorem learn_fit {rate mom : Int} {l : List OpS} {v r : List (List Int)} {k : Int} (h : StepP l v k r rate mom) : LearnP rate l (velR mom v r) := ⟨h.1.1, h.2.1, velR_fit h.1.2.2.1 h.2.2.2.2⟩
theorem SwP.step {rate mom : Int} {l : List OpS} {v r : List (List Int)} {k : Int} (h : StepP l v k r rate mom) : SwP (learnM rate l (velR mom v r)) (velR mom v r) (k + 1) := by
  have hf := velR_fit (mom := mom) h.1.2.2.1 h.2.2.2.2
  exact ⟨learnM_ok (learn_fit h), by have := h.1.2.1; omega, hf.shape (learnM_shape hf), velR_ok⟩

/-- What a step gives, in short. -/
theorem stepD_one {l : List OpS} {v : List (List Int)} {k : Int} {r : List (List Int)} {rate mom : Int} (hmo : Mo l) (hv : Gk v) : ∃ (c : List OpS) (w : List (List Int)) (k' : Int) (s : Bool), stepD l v k r rate mom = [vO c, vR w, .int k', .bool s] ∧ Mo c ∧ Gk w ∧ SameSh l c ∧ w.length = v.length := by
  by_cases h : StepP l v k r rate mom
  · have hf := velR_fit (mom := mom) h.1.2.2.1 h.2.2.2.2
    exact ⟨_, _, _, _, stepD_ok h, (learnM_ok (learn_fit h)).mo, hf.Gk hmo, learnM_shape hf, by rw [hf.1, h.1.2.2.1.1]⟩
  · exact ⟨_, _, _, _, stepD_no h, hmo, hv, .refl, rfl⟩
theorem SameSh.trans {a b c : List OpS} (h : SameSh a b) (h' : SameSh b c) : SameSh a c := by
  refine ⟨by rw [h'.1, h.1], fun j x y hx hy => ?_⟩
  obtain ⟨z, hz⟩ := at_some (l := b) (n := j) (by have := h.1; have := lt_of_at hx; omega)
  have h1 := h.2 j x z hx hz
  have h2 := h'.2 j z y hz hy
  exact ⟨by rw [h2.1, h1.1], by rw [h2.2.1, h1.2.1], by rw [h2.2.2.1, h1.2.2.1], by rw [h2.2.2.2, h1.2.2.2]⟩

end Go.Sx
