/-
  What the program's functions compute, as plain data: each from its tree.
-/
import Derived.Test.YtnglgoloeabbeaaRaF
namespace Go.Sx
open Go
set_option linter.unusedSimpArgs false
set_option linter.unusedVariables false


theorem modify_map {α β : Type} {l : List α} {f : α → β} {n : Nat} {g : β → β} {h : α → α} (e : ∀ a, g (f a) = f (h a)) : (l.map f).modify n g = (l.modify n h).map f := by
  induction l generalizing n with
  | nil => cases n <;> rfl
  | cons a l ih =>
    cases n with
    | zero => simp [e]
    | succ n => simp [ih]
theorem modify_const {α : Type} {l : List α} {n : Nat} {y : α} : l.modify n (fun _ => y) = l.set n y := by
  induction l generalizing n with
  | nil => cases n <;> rfl
  | cons a l ih =>
    cases n with
    | zero => rfl
    | succ n => simp [ih]
theorem vR_set {l : List (List Int)} {n : Nat} {y : List Int} : D.sl ((vR l).l.modify n fun x => x.set 0 (vI y)) = vR (l.set n y) := by
  unfold vR
  simp only [D.l_sl]
  rw [modify_map (h := fun _ => y) (by intro a; rfl), modify_const]
theorem mem_set' {α : Type} {p : α → Prop} {l : List α} {n : Nat} {x : α} (h : ∀ q ∈ l, p q) (hx : p x) : ∀ q ∈ l.set n x, p q := by
  intro q hq
  rcases List.mem_or_eq_of_mem_set hq with hq | rfl
  · exact h q hq
  · exact hx

/-- Two numbers, a vector, a truth value. -/
def OutO (n : Nat) (q : List D) : Prop := ∃ (x y : Int) (l : List Int) (b : Bool), q = [.int x, .int y, vI l, .bool b] ∧ l.length ≤ n
theorem OutO.mk {n : Nat} {x y : Int} {l : List Int} {b : Bool} (h : l.length ≤ n) : OutO n [.int x, .int y, vI l, .bool b] := ⟨x, y, l, b, rfl, h⟩
def IO1 (n : Nat) (k : Nat) (vs : List D) : Prop := ∃ (j : Nat) (b : Bool) (r : List Int), vs = [.int j, .bool b, vI r] ∧ r.length ≤ 6 * j ∧ j ≤ n ∧ k = n - j
def IO2 (n m c : Nat) (k : Nat) (vs : List D) : Prop := ∃ (j : Nat) (b : Bool) (r : List Int), vs = [.int c, .int j, .bool b, vI r] ∧ r.length ≤ 6 * c + j ∧ j ≤ m ∧ k = m - j

theorem L_s_Outer {a b : List Int} (ha : Sm a) (hb : Sm b) : ∃ (x y : Int) (r : List Int) (s : Bool), (Pr s_Outer [vI a, vI b] ∧ G s_Outer [vI a, vI b] = [.int x, .int y, vI r, .bool s]) ∧ r.length ≤ 36 := by
  have := g_s_Outer (ds := [vI a, vI b]) (Q := OutO 36) (by
    unfold t_s_Outer
    simp [L_s_VecOk ha, L_s_VecOk hb]
    split
    · exact OutO.mk (l := []) (by simp)
    · rename_i hc
      simp only [Classical.not_imp, Bool.not_eq_false] at hc
      have h1 := vecOk_iff.mp hc.1
      have h2 := vecOk_iff.mp hc.2
      refine wp_loop (IO1 a.length) rfl a.length ⟨0, false, [], rfl, by simp, by omega, by omega⟩ ?_
      rintro m _ ⟨j, s, r, rfl, hr, hj, rfl⟩
      by_cases hlt : j < a.length
      · simp [hlt]
        refine wp_loop (IO2 a.length b.length j) rfl b.length ⟨0, s, r, by simp, by omega, by omega, by omega⟩ ?_
        rintro m _ ⟨i, s, r, rfl, hr, hi, rfl⟩
        by_cases hlt2 : i < b.length
        · obtain ⟨x, hx⟩ := at_some hlt
          obtain ⟨y, hy⟩ := at_some hlt2
          obtain ⟨z, t, ez⟩ := L_s_FixMul (x := x) (y := y)
          simp [-getElem?_pos, hlt, hlt2, hx, hy, ez, mk1, vI_push]
          exact ⟨by omega, b.length - (i + 1), by omega, i + 1, _, _, by rw [wS (by omega)], by simp; omega, hlt2, rfl⟩
        · simp [hlt2]
          exact ⟨a.length - (j + 1), by omega, j + 1, s, r, by rw [wS (by omega)], by omega, hlt, rfl⟩
      · simp [hlt]
        exact .mk (by omega))
  obtain ⟨h1, x, y, r, s, h2, h3⟩ := this
  exact ⟨x, y, r, s, ⟨h1, h2⟩, h3⟩

def VVB (n : Nat) (q : List D) : Prop := ∃ (a b : List Int) (s : Bool), q = [vI a, vI b, .bool s] ∧ a.length ≤ n ∧ b.length ≤ n
theorem VVB.mk {n : Nat} {a b : List Int} {s : Bool} (h : a.length ≤ n) (h' : b.length ≤ n) : VVB n [vI a, vI b, .bool s] := ⟨a, b, s, rfl, h, h'⟩

theorem L_s_OpBackward {k i o : Int} {p l g : List Int} (hp : Sm p) (hl : Sm l) (hg : Sm g) : ∃ (r t : List Int) (s : Bool), (Pr s_OpBackward [.int k, .int i, .int o, vI p, vI l, vI g] ∧ G s_OpBackward [.int k, .int i, .int o, vI p, vI l, vI g] = [vI r, vI t, .bool s]) ∧ r.length ≤ 36 ∧ t.length ≤ 36 := by
  have := g_s_OpBackward (ds := [.int k, .int i, .int o, vI p, vI l, vI g]) (Q := VVB 36) (by
    unfold t_s_OpBackward
    simp only [wp_ask, wp_need, den_var, denL_cons, denL_nil, nth_zero, nth_succ]
    simp [L_s_OpOk hp, L_s_VecOk hl, L_s_VecOk hg]
    refine ⟨?_, ?_, ?_, ?_⟩
    · cases opOk ⟨k, i, o, p⟩ <;> cases vecOk l <;> simp
    · cases opOk ⟨k, i, o, p⟩ <;> cases vecOk l <;> simp
      omega
    · cases opOk ⟨k, i, o, p⟩ <;> cases vecOk l <;> cases vecOk g <;> simp
      omega
    split
    · exact VVB.mk (a := []) (b := []) (by simp) (by simp)
    · rename_i hc
      simp only [Classical.not_imp, Decidable.not_not] at hc
      obtain ⟨hm, hv, hlo, hw, hgo⟩ := hc
      have hv' := vecOk_iff.mp hv
      have hw' := vecOk_iff.mp hw
      have hm' := opOk_iff.mp hm
      obtain ⟨r1, s1, e1, b1⟩ := L_s_MatBack (i := o) (o := i) hp hg
      obtain ⟨y1, y2, r2, s2, e2, b2⟩ := L_s_Outer hg hl
      obtain ⟨r3, e3, b3⟩ := L_s_VecMask hl hg
      obtain ⟨r5, s5, e5, b5⟩ := L_s_VecAdd (b := r1) hg (by unfold Sm; omega)
      obtain ⟨z, s6, e6⟩ := L_s_VecDot hg hl
      by_cases k2 : k = 2
      · simp [k2]
        exact ⟨by omega, .mk (by omega) (by omega)⟩
      by_cases k3 : k = 3
      · simp [k3, e3]
        exact VVB.mk (b := []) (by omega) (by simp)
      by_cases k4 : k = 4
      · have h1 : p.length = 1 := by
          have := hm'.2.2.2.2.1
          simp only [opSize, k4] at this
          simp [hm'.2.1, hm'.2.2.1] at this
          omega
        obtain ⟨x, hx⟩ := at_some (l := p) (n := 0) (by omega)
        obtain ⟨r4, s4, e4, b4⟩ := L_s_VecScale (k := x) hg
        simp [-getElem?_pos, k4, h1, hx, e4, e6, mk1]
        exact VVB.mk (b := [z]) (by omega) (by simp)
      by_cases k1 : k = 1
      · simp [k1, e1, e2]
        exact .mk (by omega) b2
      · simp [k1, k2, k3, k4, e1, e2, e5]
        exact ⟨by cases s1 <;> cases s2 <;> simp, .mk (by omega) b2⟩)
  obtain ⟨h1, r, t, s, h2, h3⟩ := this
  exact ⟨r, t, s, ⟨h1, h2⟩, h3⟩

def RVB (n : Nat) (q : List D) : Prop := ∃ (r : List (List Int)) (v : List Int) (b : Bool), q = [vR r, vI v, .bool b] ∧ r.length = n ∧ Al 1048576 r
theorem RVB.mk {n : Nat} {r : List (List Int)} {v : List Int} {b : Bool} (h : r.length = n) (h' : Al 1048576 r) : RVB n [vR r, vI v, .bool b] := ⟨r, v, b, rfl, h, h'⟩
def IB (n : Nat) (k : Nat) (vs : List D) : Prop := ∃ (b : Bool) (v : List Int) (r : List (List Int)), vs = [.int ((k : Int) - 1), .bool b, vI v, vR r] ∧ Sm v ∧ r.length = n ∧ Al 1048576 r ∧ k ≤ n
theorem IB.again {n k : Nat} {b : Bool} {v : List Int} {r : List (List Int)} {i : Int} (hi : i = (k : Int)) (hv : Sm v) (hr : r.length = n) (ha : Al 1048576 r) (hk : k + 1 ≤ n) : ∃ k', k' < k + 1 ∧ IB n k' [.int (i - 1), .bool b, vI v, vR r] :=
  ⟨k, by omega, b, v, r, by rw [hi], hv, hr, ha, by omega⟩
theorem vR_rep {n : Nat} : D.sl (List.replicate n [D.sl []]) = vR (List.replicate n []) := by simp [vR, vI]

theorem L_s_l7Back {l : List OpS} {x : List (List Int)} {g : List Int} (h : Mo l) (hx : x.length = l.length + 1 ∧ Al 1048576 x) (hg : Sm g) : ∃ (r : List (List Int)) (v : List Int) (s : Bool), (Pr s_l7Back [vO l, vR x, vI g] ∧ G s_l7Back [vO l, vR x, vI g] = [vR r, vI v, .bool s]) ∧ r.length = l.length ∧ Al 1048576 r := by
  have := g_s_l7Back (ds := [vO l, vR x, vI g]) (Q := RVB l.length) (by
    unfold t_s_l7Back
    have hl := h.1
    unfold Sm at hl
    simp
    refine ⟨by omega, ?_⟩
    refine wp_loop (IB l.length) rfl l.length ⟨false, g, List.replicate l.length [], by simp [vR_rep, w64 (n := (l.length : Int) - 1) (by omega) (by omega)], hg, by simp, ?_, by omega⟩ ?_
    · intro q hq
      cases List.eq_of_mem_replicate hq
      simp
    rintro k _ ⟨s, v, r, rfl, hv, hr, ha, hk⟩
    cases k with
    | zero =>
      simp
      exact .mk hr ha
    | succ k =>
      have hk1 : ((k + 1 : Nat) : Int) - 1 = (k : Int) := by omega
      obtain ⟨y, hy⟩ := at_some (l := l) (n := k) (by omega)
      obtain ⟨z, hz⟩ := at_some (l := x) (n := k) (by omega)
      obtain ⟨w, t, u, e, b⟩ := L_s_OpBackward (k := y.k) (i := y.i) (o := y.o) (h.at hy) (hx.2.at hz) hv
      rw [hk1]
      simp [-getElem?_pos, cel_vO0 hy, cel_vO1 hy, cel_vO2 hy, cel_vO3 hy, cel_vR hz, e, vR_set, hr, hx.1]
      have hw : IntKind.wrap .i64 ((k : Int) - 1) = (k : Int) - 1 := w64 (by omega) (by omega)
      rw [hw]
      exact ⟨by omega, by omega, by omega, IB.again rfl (by unfold Sm; omega) (by simp [hr]) (mem_set' ha (by omega)) hk⟩)
  obtain ⟨h1, r, v, b, h2, h3⟩ := this
  exact ⟨r, v, b, ⟨h1, h2⟩, h3⟩

end Go.Sx
