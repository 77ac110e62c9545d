/-
  What the program's functions compute, as plain data: each from its tree.
-/
import Derived.Test.YtnglgoloeabbeaaSwE
namespace Go.Sx
open Go
set_option linter.unusedSimpArgs false
set_option linter.unusedVariables false


theorem vI_nil : D.sl [] = vI [] := rfl
theorem vR_nil : D.sl [] = vR [] := rfl
theorem vI_cat (a b : List Int) : D.sl ((vI a).l ++ (vI b).l) = vI (a ++ b) := by simp [vI]

theorem opSize_p {k i o : Int} (h : (1 ≤ i ∧ i ≤ 6) ∧ (1 ≤ o ∧ o ≤ 6)) : opSize k i o = if k = 1 ∨ k = 5 then i * o else if k = 2 then i else if k = 4 then 1 else 0 := by
  unfold opSize
  rw [if_neg (by omega)]
theorem opOk_mat {k i o : Int} {p : List Int} (h : opOk ⟨k, i, o, p⟩ = true) (hk : k = 1 ∨ k = 5) : matOk o i p = true := by
  obtain ⟨h1, h2, h3, h4, h5, h6⟩ := opOk_iff.mp h
  simp only at h1 h2 h3 h4 h5 h6
  rw [opSize_p ⟨h2, h3⟩, if_pos hk, Int.mul_comm] at h5
  exact matOk_iff.mpr ⟨h3, h2, h5, h6⟩

theorem L_s_OpForward {k i o : Int} {p l : List Int} (hp : Sm p) (hl : Sm l) : ∃ (r : List Int) (s : Bool), (Pr s_OpForward [.int k, .int i, .int o, vI p, vI l] ∧ G s_OpForward [.int k, .int i, .int o, vI p, vI l] = [vI r, .bool s]) ∧ r.length ≤ 6 ∧ r.all fixOk = true ∧ (opOk ⟨k, i, o, p⟩ = true ∧ vecOk l = true ∧ (l.length : Int) = i → r.length = o.toNat) := by
  have := g_s_OpForward (ds := [.int k, .int i, .int o, vI p, vI l]) (Q := VBx 6 (opOk ⟨k, i, o, p⟩ = true ∧ vecOk l = true ∧ (l.length : Int) = i) o.toNat) (by
    unfold t_s_OpForward
    simp [L_s_OpOk hp, L_s_VecOk hl]
    refine ⟨by cases opOk ⟨k, i, o, p⟩ <;> cases vecOk l <;> simp, ?_⟩
    split
    · rename_i hc
      exact VBx.mk (l := []) (by simp) rfl fun h => absurd h.2.2 (hc h.1 h.2.1)
    · rename_i hc
      simp only [Classical.not_imp, Decidable.not_not] at hc
      obtain ⟨hm, hv, hlo⟩ := hc
      have hv' := vecOk_iff.mp hv
      have hm' := opOk_iff.mp hm
      obtain ⟨m1, m2, m3, m4, m5, m6⟩ := hm'
      simp only at m1 m2 m3 m4 m5 m6
      obtain ⟨r1, s1, e1, b1, f1, g1⟩ := L_s_MatVec (i := o) (o := i) hp hl
      obtain ⟨r2, s2, e2, b2, f2, g2⟩ := L_s_VecAdd hl hp
      obtain ⟨r3, e3, b3, f3, g3⟩ := L_s_VecRelu hl
      obtain ⟨r5, s5, e5, b5, f5, g5⟩ := L_s_VecAdd (b := r1) hl (by unfold Sm; omega)
      by_cases k1 : k = 1
      · have hmat := opOk_mat hm (.inl k1)
        simp [k1, e1]
        exact .mk b1 f1 fun _ => g1 ⟨hmat, hv, hlo⟩
      have hio : i = o := by omega
      by_cases k2 : k = 2
      · rw [opSize_p ⟨m2, m3⟩, if_neg (by omega), if_pos k2] at m5
        simp [k2, e2]
        exact .mk (by omega) f2 fun _ => by rw [g2 ⟨hv, vecOk_iff.mpr ⟨by omega, m6⟩, by omega⟩]; omega
      by_cases k3 : k = 3
      · simp [k3, e3]
        exact .mk (by omega) f3 fun _ => by rw [g3 hv]; omega
      by_cases k4 : k = 4
      · rw [opSize_p ⟨m2, m3⟩, if_neg (by omega), if_neg k2, if_pos k4] at m5
        have h1 : p.length = 1 := by omega
        obtain ⟨x, hx⟩ := at_some (l := p) (n := 0) (by omega)
        obtain ⟨r4, s4, e4, b4, f4, g4⟩ := L_s_VecScale (k := x) hl
        have hxo : fixOk x = true := List.all_eq_true.mp m6 x (List.mem_of_getElem? hx)
        simp [-getElem?_pos, k4, h1, hx, e4]
        exact .mk (by omega) f4 fun _ => by rw [g4 ⟨hv, hxo⟩]; omega
      · have hmat := opOk_mat hm (.inr (by omega))
        have hr1 := g1 ⟨hmat, hv, hlo⟩
        simp [k1, k2, k3, k4, e1, e5]
        exact .mk (by omega) f5 fun _ => by rw [g5 ⟨hv, vecOk_iff.mpr ⟨by omega, f1⟩, by omega⟩]; omega)
  obtain ⟨h1, x, b, h2, h3⟩ := this
  exact ⟨x, b, ⟨h1, h2⟩, h3⟩

/-- What goes into each operation, and what comes out at last. -/
def InR (l : List OpS) (j : Nat) (r : List (List Int)) : Prop := ∀ (i : Nat) (g : List Int), i ≤ j → r[i]? = some g → vecOk g = true ∧ (∀ o, l[i]? = some o → (g.length : Int) = o.i) ∧ (i = l.length → (g.length : Int) = outOf l)
def RB (l : List OpS) (x : List Int) (m : Nat) (q : List D) : Prop := ∃ (r : List (List Int)) (b : Bool), q = [vR r, .bool b] ∧ r.length = l.length + 1 ∧ Al m r ∧ (ModelP l → vecOk x = true → (x.length : Int) = inOf l → InR l l.length r)
theorem Al.at {m : Nat} {l : List (List Int)} (h : Al m l) {j : Nat} {x : List Int} (hx : l[j]? = some x) : x.length ≤ m := h x (List.mem_of_getElem? hx)
theorem Mo.at {l : List OpS} (h : Mo l) {j : Nat} {x : OpS} (hx : l[j]? = some x) : x.p.length ≤ 1048576 := h.2 x (List.mem_of_getElem? hx)

theorem vR_one {x : List Int} : D.sl [[vI x]] = vR [x] := rfl

theorem InR.start {l : List OpS} {x : List Int} (hm : ModelP l) (hv : vecOk x = true) (hi : (x.length : Int) = inOf l) : InR l 0 [x] := by
  intro i g h hg
  have : i = 0 := by omega
  subst this
  cases hg
  refine ⟨hv, fun o ho => ?_, fun h => ?_⟩
  · rw [hi]
    unfold inOf
    rw [getD_at ho]
  · have := hm.1
    omega
theorem InR.step {l : List OpS} {r : List (List Int)} {j : Nat} (hm : ModelP l) (h : InR l j r) (hn : r.length = j + 1) {o : OpS} (ho : l[j]? = some o) {g : List Int} (hg : vecOk g = true) (hl : (g.length : Int) = o.o) : InR l (j + 1) (r ++ [g]) := by
  intro i y hi hy
  by_cases hij : i ≤ j
  · rw [List.getElem?_append_left (by omega)] at hy
    exact h i y hij hy
  · have e : i = r.length := by omega
    rw [List.getElem?_append_right (by omega), show i - r.length = 0 by omega] at hy
    cases hy
    refine ⟨hg, fun q hq => ?_, fun h => ?_⟩
    · rw [hl]
      exact (hm.2.2 j o q ho (by rw [show j + 1 = i by omega]; exact hq)).symm
    · rw [hl]
      unfold outOf
      rw [show l.length - 1 = j by omega, getD_at ho]
def IRx (l : List OpS) (x : List Int) (k : Nat) (vs : List D) : Prop := ∃ (j : Nat) (b : Bool) (r : List (List Int)), vs = [.int j, .bool b, vR r] ∧ (r.length = j + 1 ∧ Al 1048576 r ∧ (ModelP l → vecOk x = true → (x.length : Int) = inOf l → InR l j r)) ∧ j ≤ l.length ∧ k = l.length - j

theorem L_s_l7Inputs {l : List OpS} {x : List Int} (h : Mo l) (hx : Sm x) : ∃ (r : List (List Int)) (s : Bool), (Pr s_l7Inputs [vO l, vI x] ∧ G s_l7Inputs [vO l, vI x] = [vR r, .bool s]) ∧ r.length = l.length + 1 ∧ Al 1048576 r ∧ (ModelP l → vecOk x = true → (x.length : Int) = inOf l → InR l l.length r) := by
  have := g_s_l7Inputs (ds := [vO l, vI x]) (Q := RB l x 1048576) (by
    unfold t_s_l7Inputs
    unfold Sm at hx
    simp [mk1]
    refine ⟨by omega, ?_⟩
    refine wp_loop (IRx l x) rfl l.length ⟨0, false, [x], by simp [mk1, vI_cat, vI_nil, vR_one], ⟨rfl, Al.nil.push hx, fun a b c => .start a b c⟩, by omega, rfl⟩ ?_
    rintro m _ ⟨j, s, r, rfl, ⟨hr, ha, hin⟩, hj, rfl⟩
    have hl := h.1
    unfold Sm at hl
    by_cases hlt : j < l.length
    · obtain ⟨y, hy⟩ := at_some hlt
      obtain ⟨z, hz⟩ := at_some (l := r) (n := j) (by omega)
      obtain ⟨w, t, e, b, f, g⟩ := L_s_OpForward (k := y.k) (i := y.i) (o := y.o) (h.at hy) (ha.at hz)
      simp [-getElem?_pos, hlt, cel_vO0 hy, cel_vO1 hy, cel_vO2 hy, cel_vO3 hy, cel_vR hz, e, mk1, vR_push, hr]
      refine ⟨by omega, by omega, l.length - (j + 1), by omega, j + 1, _, _, by rw [wS (by omega)], ⟨by simp; omega, ha.push (by omega), fun a b' c => ?_⟩, hlt, rfl⟩
      have hq := hin a b' c
      have hz' := hq j z (by omega) hz
      have hyo := a.2.1 y (List.mem_of_getElem? hy)
      have hyo' := opOk_iff.mp hyo
      have hw := g ⟨hyo, hz'.1, hz'.2.1 y hy⟩
      exact hq.step a hr hy (vecOk_iff.mpr ⟨by omega, f⟩) (by omega)
    · have : j = l.length := by omega
      subst this
      simp
      exact ⟨r, s, rfl, hr, ha, hin⟩)
  obtain ⟨h1, x, b, h2, h3⟩ := this
  exact ⟨x, b, ⟨h1, h2⟩, h3⟩

def NBx (q : List D) : Prop := ∃ (x : Int) (s : Bool), q = [.int x, .bool s]
theorem L_s_LossOf {a b : List Int} (ha : Sm a) (hb : Sm b) : ∃ (x : Int) (s : Bool), Pr s_LossOf [vI a, vI b] ∧ G s_LossOf [vI a, vI b] = [.int x, .bool s] := by
  obtain ⟨r, s, e, h, _⟩ := L_s_VecSub ha hb
  have hr : Sm r := by unfold Sm at *; omega
  obtain ⟨x, t, e2, _⟩ := L_s_VecDot hr hr
  have := g_s_LossOf (ds := [vI a, vI b]) (Q := NBx) (by
    unfold t_s_LossOf
    simp [e, e2]
    exact ⟨_, _, rfl⟩)
  obtain ⟨h1, x, b, h2⟩ := this
  exact ⟨x, b, h1, h2⟩

theorem all_at' {l : List Int} {j : Nat} {x : Int} (h : l.all fixOk = true) (hx : l[j]? = some x) : fixOk x = true := List.all_eq_true.mp h x (List.mem_of_getElem? hx)
theorem L_s_VecMask {a b : List Int} (ha : Sm a) (hb : Sm b) : ∃ r : List Int, (Pr s_VecMask [vI a, vI b] ∧ G s_VecMask [vI a, vI b] = [vI r]) ∧ r.length ≤ a.length ∧ r.all fixOk = true ∧ (vecOk a = true ∧ vecOk b = true ∧ a.length = b.length → r.length = a.length) := by
  have := g_s_VecMask (ds := [vI a, vI b]) (Q := VLx a.length (vecOk a = true ∧ vecOk b = true ∧ a.length = b.length) a.length) (by
    unfold t_s_VecMask
    refine wp_loop (IL a.length) rfl a.length .start ?_
    rintro m _ ⟨j, r, rfl, hr, hj, rfl⟩
    have e := L_s_l3Pair ha hb
    unfold Sm at ha hb
    by_cases hlt : j < a.length
    · by_cases hp : (vecOk a && vecOk b && decide (a.length = b.length)) = true
      · have hl : a.length = b.length := by simp at hp; exact hp.2
        have hbo : b.all fixOk = true := by
          simp only [Bool.and_eq_true] at hp
          exact (vecOk_iff.mp hp.1.2).2
        obtain ⟨x, hx⟩ := at_some hlt
        obtain ⟨y, hy⟩ := at_some (l := b) (n := j) (by omega)
        rw [hp] at e
        simp [-getElem?_pos, hlt, hx, hy, e, mk1, vI_push, ← hl]
        split
        · exact ⟨by omega, IL.again (wS (by omega)) hr (all_at' hbo hy) hlt⟩
        · exact ⟨by omega, IL.again (wS (by omega)) hr (by decide) hlt⟩
      · rw [Bool.not_eq_true] at hp
        rw [hp] at e
        simp [hlt, e]
        refine .mk (by omega) hr.2 fun h => ?_
        simp [h.1, h.2.1, h.2.2] at hp
    · simp [hlt]
      exact .mk (by omega) hr.2 fun _ => by omega)
  obtain ⟨h1, x, h2, h3⟩ := this
  exact ⟨x, ⟨h1, h2⟩, h3⟩

theorem L_s_l4Col {i o c : Int} {p : List Int} (h : matOk i o p = true) (hc : 0 ≤ c ∧ c < o) : ∃ r : List Int, (Pr s_l4Col [.int i, .int o, vI p, .int c] ∧ G s_l4Col [.int i, .int o, vI p, .int c] = [vI r]) ∧ r.length ≤ i.toNat := by
  obtain ⟨h1, h2, h3, h4⟩ := matOk_iff.mp h
  have m := mul36 h1 h2
  have := g_s_l4Col (ds := [.int i, .int o, vI p, .int c]) (Q := fun q => ∃ r : List Int, q = [vI r] ∧ r.length ≤ i.toNat) (by
    unfold t_s_l4Col
    refine wp_loop (IL i.toNat) rfl i.toNat .start ?_
    rintro m _ ⟨j, r, rfl, hr, hj, rfl⟩
    by_cases hlt : (j : Int) < i
    · have k := mul_lt (a := j) (b := i) ⟨by omega, hlt⟩ hc
      have w1 : IntKind.wrap .i64 ((j : Int) * o) = (j : Int) * o := w64 (by omega) (by omega)
      have w2 : IntKind.wrap .i64 ((j : Int) * o + c) = (j : Int) * o + c := w64 (by omega) (by omega)
      obtain ⟨x, hx⟩ := at_some (l := p) (n := ((j : Int) * o + c).toNat) (by omega)
      simp [-getElem?_pos, hlt, w1, w2, hx, mk1, vI_push]
      exact ⟨by omega, by omega, by omega, IL.again (wS (by omega)) hr (all_at' h4 hx) (by omega)⟩
    · simp [hlt]
      exact ⟨r, rfl, by omega⟩)
  obtain ⟨h1, x, h2, h3⟩ := this
  exact ⟨x, ⟨h1, h2⟩, h3⟩

theorem L_s_MatBack {i o : Int} {p l : List Int} (hp : Sm p) (hl : Sm l) : ∃ (r : List Int) (s : Bool), (Pr s_MatBack [.int i, .int o, vI p, vI l] ∧ G s_MatBack [.int i, .int o, vI p, vI l] = [vI r, .bool s]) ∧ r.length ≤ 6 ∧ r.all fixOk = true ∧ (matOk i o p = true ∧ vecOk l = true ∧ (l.length : Int) = i → r.length = o.toNat) := by
  have := g_s_MatBack (ds := [.int i, .int o, vI p, vI l]) (Q := VBx 6 (matOk i o p = true ∧ vecOk l = true ∧ (l.length : Int) = i) o.toNat) (by
    unfold t_s_MatBack
    simp [L_s_MatOk hp, L_s_VecOk hl]
    refine ⟨by cases matOk i o p <;> cases vecOk l <;> simp, ?_⟩
    split
    · rename_i hc
      exact VBx.mk (l := []) (by simp) rfl fun h => absurd h.2.2 (hc h.1 h.2.1)
    · rename_i hc
      simp only [Classical.not_imp, Decidable.not_not] at hc
      obtain ⟨hm, hv, hlo⟩ := hc
      have hm' := matOk_iff.mp hm
      refine wp_loop (IV o.toNat) rfl o.toNat .start ?_
      rintro m _ ⟨j, s, r, rfl, hr, hj, rfl⟩
      by_cases hlt : (j : Int) < o
      · obtain ⟨w, e, hw⟩ := L_s_l4Col (c := (j : Int)) hm ⟨by omega, hlt⟩
        obtain ⟨x, t, e2, x2⟩ := L_s_VecDot (a := w) (b := l) (by unfold Sm; omega) hl
        simp [hlt, e, e2, mk1, vI_push]
        exact ⟨by omega, IV.again (wS (by omega)) hr x2 (by omega)⟩
      · simp [hlt]
        exact .mk (by omega) hr.2 fun _ => by omega)
  obtain ⟨h1, x, b, h2, h3⟩ := this
  exact ⟨x, b, ⟨h1, h2⟩, h3⟩

end Go.Sx
