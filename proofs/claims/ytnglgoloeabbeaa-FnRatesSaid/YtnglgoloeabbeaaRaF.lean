/-
  What the program's functions compute, as plain data: each from its tree.
-/
import Derived.Test.YtnglgoloeabbeaaRaE
namespace Go.Sx
open Go
set_option linter.unusedSimpArgs false
set_option linter.unusedVariables false


theorem vI_nil : D.sl [] = vI [] := rfl
theorem vR_nil : D.sl [] = vR [] := rfl
theorem vI_cat (a b : List Int) : D.sl ((vI a).l ++ (vI b).l) = vI (a ++ b) := by simp [vI]

theorem L_s_OpForward {k i o : Int} {p l : List Int} (hp : Sm p) (hl : Sm l) : ∃ (r : List Int) (s : Bool), (Pr s_OpForward [.int k, .int i, .int o, vI p, vI l] ∧ G s_OpForward [.int k, .int i, .int o, vI p, vI l] = [vI r, .bool s]) ∧ r.length ≤ 6 := by
  have := g_s_OpForward (ds := [.int k, .int i, .int o, vI p, vI l]) (Q := VB 6) (by
    unfold t_s_OpForward
    simp [L_s_OpOk hp, L_s_VecOk hl]
    refine ⟨by cases opOk ⟨k, i, o, p⟩ <;> cases vecOk l <;> simp, ?_⟩
    split
    · exact VB.mk (l := []) (by simp)
    · rename_i hc
      simp only [Classical.not_imp, Decidable.not_not] at hc
      obtain ⟨hm, hv, hlo⟩ := hc
      have hv' := vecOk_iff.mp hv
      have hm' := opOk_iff.mp hm
      obtain ⟨r1, s1, e1, b1⟩ := L_s_MatVec (i := o) (o := i) hp hl
      obtain ⟨r2, s2, e2, b2⟩ := L_s_VecAdd hl hp
      obtain ⟨r3, e3, b3⟩ := L_s_VecRelu hl
      obtain ⟨r5, s5, e5, b5⟩ := L_s_VecAdd (b := r1) hl (by unfold Sm; omega)
      by_cases k1 : k = 1
      · simp [k1, e1]
        exact .mk b1
      by_cases k2 : k = 2
      · simp [k2, e2]
        exact .mk (by omega)
      by_cases k3 : k = 3
      · simp [k3, e3]
        exact .mk (by omega)
      by_cases k4 : k = 4
      · have h1 : p.length = 1 := by
          have := hm'.2.2.2.2.1
          simp only [opSize, k4] at this
          simp [hm'.2.1, hm'.2.2.1] at this
          omega
        obtain ⟨x, hx⟩ := at_some (l := p) (n := 0) (by omega)
        obtain ⟨r4, s4, e4, b4⟩ := L_s_VecScale (k := x) hl
        simp [-getElem?_pos, k4, h1, hx, e4]
        exact .mk (by omega)
      · simp [k1, k2, k3, k4, e1, e5]
        exact .mk (by omega))
  obtain ⟨h1, x, b, h2, h3⟩ := this
  exact ⟨x, b, ⟨h1, h2⟩, h3⟩

/-- Rows and a truth value. -/
def RB (n m : Nat) (q : List D) : Prop := ∃ (l : List (List Int)) (b : Bool), q = [vR l, .bool b] ∧ l.length = n ∧ Al m l
theorem RB.mk {n m : Nat} {l : List (List Int)} {b : Bool} (h : l.length = n) (h' : Al m l) : RB n m [vR l, .bool b] := ⟨l, b, rfl, h, h'⟩
def IR (n m : Nat) (k : Nat) (vs : List D) : Prop := ∃ (j : Nat) (b : Bool) (r : List (List Int)), vs = [.int j, .bool b, vR r] ∧ r.length = j + 1 ∧ Al m r ∧ j ≤ n ∧ k = n - j
theorem IR.again {n m j : Nat} {b : Bool} {r : List (List Int)} {i : Int} (hi : i = ((j + 1 : Nat) : Int)) (hr : r.length = j + 2) (ha : Al m r) (hj : j < n) : ∃ k', k' < n - j ∧ IR n m k' [.int i, .bool b, vR r] :=
  ⟨n - (j + 1), by omega, j + 1, b, r, by rw [hi], hr, ha, hj, rfl⟩

theorem Al.at {m : Nat} {l : List (List Int)} (h : Al m l) {j : Nat} {x : List Int} (hx : l[j]? = some x) : x.length ≤ m := h x (List.mem_of_getElem? hx)
theorem Mo.at {l : List OpS} (h : Mo l) {j : Nat} {x : OpS} (hx : l[j]? = some x) : x.p.length ≤ 1048576 := h.2 x (List.mem_of_getElem? hx)

theorem vR_one {x : List Int} : D.sl [[vI x]] = vR [x] := rfl

theorem L_s_l7Inputs {l : List OpS} {x : List Int} (h : Mo l) (hx : Sm x) : ∃ (r : List (List Int)) (s : Bool), (Pr s_l7Inputs [vO l, vI x] ∧ G s_l7Inputs [vO l, vI x] = [vR r, .bool s]) ∧ r.length = l.length + 1 ∧ Al 1048576 r := by
  have := g_s_l7Inputs (ds := [vO l, vI x]) (Q := RB (l.length + 1) 1048576) (by
    unfold t_s_l7Inputs
    unfold Sm at hx
    simp [mk1]
    refine ⟨by omega, ?_⟩
    refine wp_loop (IR l.length 1048576) rfl l.length ⟨0, false, [x], by simp [mk1, vI_cat, vI_nil, vR_one], rfl, Al.nil.push hx, by omega, rfl⟩ ?_
    rintro m _ ⟨j, s, r, rfl, hr, ha, hj, rfl⟩
    have hl := h.1
    unfold Sm at hl
    by_cases hlt : j < l.length
    · obtain ⟨y, hy⟩ := at_some hlt
      obtain ⟨z, hz⟩ := at_some (l := r) (n := j) (by omega)
      obtain ⟨w, t, e, b⟩ := L_s_OpForward (k := y.k) (i := y.i) (o := y.o) (h.at hy) (ha.at hz)
      simp [-getElem?_pos, hlt, cel_vO0 hy, cel_vO1 hy, cel_vO2 hy, cel_vO3 hy, cel_vR hz, e, mk1, vR_push, hr]
      exact ⟨by omega, by omega, IR.again (wS (by omega)) (by simp; omega) (ha.push (by omega)) hlt⟩
    · simp [hlt]
      exact .mk (by omega) ha)
  obtain ⟨h1, x, b, h2, h3⟩ := this
  exact ⟨x, b, ⟨h1, h2⟩, h3⟩

theorem L_s_LossOf {a b : List Int} (ha : Sm a) (hb : Sm b) : ∃ (x : Int) (s : Bool), Pr s_LossOf [vI a, vI b] ∧ G s_LossOf [vI a, vI b] = [.int x, .bool s] := by
  obtain ⟨r, s, e, h⟩ := L_s_VecSub ha hb
  have hr : Sm r := by unfold Sm at *; omega
  obtain ⟨x, t, e2⟩ := L_s_VecDot hr hr
  have := g_s_LossOf (ds := [vI a, vI b]) (Q := NB) (by
    unfold t_s_LossOf
    simp [e, e2]
    exact .mk)
  obtain ⟨h1, x, b, h2⟩ := this
  exact ⟨x, b, h1, h2⟩

theorem L_s_VecMask {a b : List Int} (ha : Sm a) (hb : Sm b) : ∃ r : List Int, (Pr s_VecMask [vI a, vI b] ∧ G s_VecMask [vI a, vI b] = [vI r]) ∧ r.length ≤ a.length := by
  have := g_s_VecMask (ds := [vI a, vI b]) (Q := VL a.length) (by
    unfold t_s_VecMask
    refine wp_loop (IL a.length) rfl a.length .start ?_
    rintro m _ ⟨j, r, rfl, hr, hj, rfl⟩
    have e := L_s_l3Pair ha hb
    unfold Sm at ha hb
    by_cases hlt : j < a.length
    · by_cases hp : (vecOk a && vecOk b && decide (a.length = b.length)) = true
      · have hl : a.length = b.length := by simp at hp; exact hp.2
        obtain ⟨x, hx⟩ := at_some hlt
        obtain ⟨y, hy⟩ := at_some (l := b) (n := j) (by omega)
        rw [hp] at e
        simp [-getElem?_pos, hlt, hx, hy, e, mk1, vI_push, ← hl]
        split
        · exact ⟨by omega, IL.again (wS (by omega)) (by simp; omega) hlt⟩
        · exact ⟨by omega, IL.again (wS (by omega)) (by simp; omega) hlt⟩
      · rw [Bool.not_eq_true] at hp
        rw [hp] at e
        simp [hlt, e]
        exact .mk (by omega)
    · simp [hlt]
      exact .mk (by omega))
  obtain ⟨h1, x, h2, h3⟩ := this
  exact ⟨x, ⟨h1, h2⟩, h3⟩

theorem L_s_l4Col {i o c : Int} {p : List Int} (h : matOk i o p = true) (hc : 0 ≤ c ∧ c < o) : ∃ r : List Int, (Pr s_l4Col [.int i, .int o, vI p, .int c] ∧ G s_l4Col [.int i, .int o, vI p, .int c] = [vI r]) ∧ r.length ≤ i.toNat := by
  obtain ⟨h1, h2, h3, _⟩ := matOk_iff.mp h
  have m := mul36 h1 h2
  have := g_s_l4Col (ds := [.int i, .int o, vI p, .int c]) (Q := VL i.toNat) (by
    unfold t_s_l4Col
    refine wp_loop (IL i.toNat) rfl i.toNat .start ?_
    rintro m _ ⟨j, r, rfl, hr, hj, rfl⟩
    by_cases hlt : (j : Int) < i
    · have k := mul_lt (a := j) (b := i) ⟨by omega, hlt⟩ hc
      have w1 : IntKind.wrap .i64 ((j : Int) * o) = (j : Int) * o := w64 (by omega) (by omega)
      have w2 : IntKind.wrap .i64 ((j : Int) * o + c) = (j : Int) * o + c := w64 (by omega) (by omega)
      obtain ⟨x, hx⟩ := at_some (l := p) (n := ((j : Int) * o + c).toNat) (by omega)
      simp [-getElem?_pos, hlt, w1, w2, hx, mk1, vI_push]
      exact ⟨by omega, by omega, by omega, IL.again (wS (by omega)) (by simp; omega) (by omega)⟩
    · simp [hlt]
      exact .mk (by omega))
  obtain ⟨h1, x, h2, h3⟩ := this
  exact ⟨x, ⟨h1, h2⟩, h3⟩

theorem L_s_MatBack {i o : Int} {p l : List Int} (hp : Sm p) (hl : Sm l) : ∃ (r : List Int) (s : Bool), (Pr s_MatBack [.int i, .int o, vI p, vI l] ∧ G s_MatBack [.int i, .int o, vI p, vI l] = [vI r, .bool s]) ∧ r.length ≤ 6 := by
  have := g_s_MatBack (ds := [.int i, .int o, vI p, vI l]) (Q := VB 6) (by
    unfold t_s_MatBack
    simp [L_s_MatOk hp, L_s_VecOk hl]
    refine ⟨by cases matOk i o p <;> cases vecOk l <;> simp, ?_⟩
    split
    · exact VB.mk (l := []) (by simp)
    · rename_i hc
      simp only [Classical.not_imp, Decidable.not_not] at hc
      obtain ⟨hm, hv, hlo⟩ := hc
      have hm' := matOk_iff.mp hm
      refine wp_loop (IV o.toNat) rfl o.toNat .start ?_
      rintro m _ ⟨j, s, r, rfl, hr, hj, rfl⟩
      by_cases hlt : (j : Int) < o
      · obtain ⟨w, e, hw⟩ := L_s_l4Col (c := (j : Int)) hm ⟨by omega, hlt⟩
        obtain ⟨x, t, e2⟩ := L_s_VecDot (a := w) (b := l) (by unfold Sm; omega) hl
        simp [hlt, e, e2, mk1, vI_push]
        exact ⟨by omega, IV.again (wS (by omega)) (by simp; omega) (by omega)⟩
      · simp [hlt]
        exact .mk (by omega))
  obtain ⟨h1, x, b, h2, h3⟩ := this
  exact ⟨x, b, ⟨h1, h2⟩, h3⟩

end Go.Sx
