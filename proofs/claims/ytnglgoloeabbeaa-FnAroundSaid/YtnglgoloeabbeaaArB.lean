/-
  What the program's functions compute, as plain data: each from its tree.
-/
import Derived.Test.YtnglgoloeabbeaaArA
namespace Go.Sx
open Go
set_option linter.unusedSimpArgs false
set_option linter.unusedVariables false

theorem mk1 {x : D} : chunks 1 1 [x] = [[x]] := rfl

set_option maxRecDepth 100000 in
theorem L_s_l2Fix {cd : List (List D)} {i h : Int} (hc : Cur cd i) : ∃ x i' h' : Int, (Pr s_l2Fix [.sl cd, .int i, .int h] ∧ G s_l2Fix [.sl cd, .int i, .int h] = [.int x, .sl cd, .int i', .int h']) ∧ Cur cd i' := by
  obtain ⟨x1, i1, h1, e1, b1, c1⟩ := L_s_l1Below (h := h) (m := 12) hc (by omega)
  obtain ⟨x2, i2, h2, e2, b2, c2⟩ := L_s_l1PickInt (h := h1) (l := [2147483647, -2147483647, 2147483646, 1, -1, 0]) c1 (by decide)
  obtain ⟨x3, i3, h3, e3, b3, c3⟩ := L_s_l1Below (h := h1) (m := 4000) c1 (by omega)
  obtain ⟨x4, i4, h4, e4, b4, c4⟩ := L_s_l1Below (h := h1) (m := 9) c1 (by omega)
  obtain ⟨x5, i5, h5, e5, b5, c5⟩ := L_s_l1Below (h := h1) (m := 17) c1 (by omega)
  obtain ⟨x6, i6, h6, e6, b6, c6⟩ := L_s_l1PickInt (h := h5) (l := [1, 1, 2, 4, 3]) c5 (by decide)
  have v6 : D.sl (chunks 1 6 [.int 2147483647, .int (-2147483647), .int 2147483646, .int 1, .int (-1), .int 0]) = vI [2147483647, -2147483647, 2147483646, 1, -1, 0] := rfl
  have v5 : D.sl (chunks 1 5 [.int 1, .int 1, .int 2, .int 4, .int 3]) = vI [1, 1, 2, 4, 3] := rfl
  have := g_s_l2Fix (ds := [.sl cd, .int i, .int h]) (Q := fun o => ∃ x i' h' : Int, o = [.int x, .sl cd, .int i', .int h'] ∧ Cur cd i') (by
    unfold t_s_l2Fix
    simp [e1, e3, e4, e5, v6, v5, e2, e6]
    split
    · exact ⟨_, _, ⟨rfl, rfl⟩, c2⟩
    · split
      · exact ⟨_, _, ⟨rfl, rfl⟩, c3⟩
      · split
        · exact ⟨_, _, ⟨rfl, rfl⟩, c4⟩
        · refine ⟨?_, _, _, ⟨rfl, rfl⟩, c6⟩
          simp at b6
          omega)
  obtain ⟨h1, x, i', h', h2, h3⟩ := this
  exact ⟨x, i', h', ⟨h1, h2⟩, h3⟩

theorem L_s_l3Vec {cd : List (List D)} {i h m : Int} (hc : Cur cd i) (hm : m ≤ 1000) : ∃ (l : List Int) (i' h' : Int), (Pr s_l3Vec [.sl cd, .int i, .int h, .int m] ∧ G s_l3Vec [.sl cd, .int i, .int h, .int m] = [vI l, .sl cd, .int i', .int h']) ∧ l.length = m.toNat ∧ Cur cd i' := by
  have := g_s_l3Vec (ds := [.sl cd, .int i, .int h, .int m]) (Q := fun o => ∃ (l : List Int) (i' h' : Int), o = [vI l, .sl cd, .int i', .int h'] ∧ l.length = m.toNat ∧ Cur cd i') (by
    unfold t_s_l3Vec
    refine wp_loop (fun k vs => ∃ (j : Nat) (i' h' : Int) (l : List Int), vs = [.int j, .int i', .int h', vI l] ∧ l.length = j ∧ j ≤ m.toNat ∧ Cur cd i' ∧ k = m.toNat - j) rfl m.toNat ⟨0, i, h, [], rfl, rfl, by omega, hc, rfl⟩ ?_
    rintro k _ ⟨j, i', h', l, rfl, hl, h0, hc', rfl⟩
    obtain ⟨x1, i1, h1, e1, c1⟩ := L_s_l2Fix (h := h') hc'
    simp [e1, mk1, vI_push]
    split
    · rename_i hj
      rw [wS (by omega)]
      exact ⟨by omega, _, by omega, j + 1, _, _, _, ⟨rfl, rfl, rfl, rfl⟩, by simp [hl], by omega, c1, rfl⟩
    · exact ⟨l, _, ⟨rfl, rfl⟩, by omega, hc'⟩)
  obtain ⟨h1, x, i', h', h2, h3⟩ := this
  exact ⟨x, i', h', ⟨h1, h2⟩, h3⟩

theorem L_s_l5Op {cd : List (List D)} {i h m : Int} (hc : Cur cd i) : ∃ (o : OpS) (i' h' : Int), (Pr s_l5Op [.sl cd, .int i, .int h, .int m] ∧ G s_l5Op [.sl cd, .int i, .int h, .int m] = [.int o.k, .int o.i, .int o.o, vI o.p, .sl cd, .int i', .int h']) ∧ o.p.length ≤ 36 ∧ Cur cd i' := by
  obtain ⟨x1, i1, h1, e1, b1, c1⟩ := L_s_l1Below (h := h) (m := 5) hc (by omega)
  obtain ⟨x2, i2, h2, e2, b2, c2⟩ := L_s_l1Below (h := h1) (m := 3) c1 (by omega)
  have s1 := @opSize_le (1 + x1) m (1 + x2)
  have s2 := @opSize_le (1 + x1) m m
  obtain ⟨l3, i3, h3, e3, b3, c3⟩ := L_s_l3Vec (h := h2) (m := opSize (1 + x1) m (1 + x2)) c2 (by omega)
  obtain ⟨l4, i4, h4, e4, b4, c4⟩ := L_s_l3Vec (h := h1) (m := opSize (1 + x1) m m) c1 (by omega)
  have w1 : IntKind.wrap .i64 (1 + x1) = 1 + x1 := w64 (by omega) (by omega)
  have w2 : IntKind.wrap .i64 (1 + x2) = 1 + x2 := w64 (by omega) (by omega)
  have := g_s_l5Op (ds := [.sl cd, .int i, .int h, .int m]) (Q := fun q => ∃ (o : OpS) (i' h' : Int), q = [.int o.k, .int o.i, .int o.o, vI o.p, .sl cd, .int i', .int h'] ∧ o.p.length ≤ 36 ∧ Cur cd i') (by
    unfold t_s_l5Op
    simp [e1, w1, e2, w2, e3, e4]
    split
    · exact ⟨⟨_, _, _, _⟩, _, ⟨rfl, rfl, rfl, rfl, rfl⟩, by show l3.length ≤ 36; omega, c3⟩
    · exact ⟨⟨_, _, _, _⟩, _, ⟨rfl, rfl, rfl, rfl, rfl⟩, by show l4.length ≤ 36; omega, c4⟩)
  obtain ⟨h1, x, i', h', h2, h3⟩ := this
  exact ⟨x, i', h', ⟨h1, h2⟩, h3⟩

theorem L_s_l6Model {cd : List (List D)} {i h : Int} (hc : Cur cd i) : ∃ (l : List OpS) (i' h' : Int), (Pr s_l6Model [.sl cd, .int i, .int h] ∧ G s_l6Model [.sl cd, .int i, .int h] = [vO l, .sl cd, .int i', .int h']) ∧ (1 ≤ l.length ∧ l.length ≤ 6 ∧ ∀ o ∈ l, o.p.length ≤ 36) ∧ Cur cd i' := by
  obtain ⟨x1, i1, h1, e1, b1, c1⟩ := L_s_l1Below (h := h) (m := 3) hc (by omega)
  obtain ⟨x2, i2, h2, e2, b2, c2⟩ := L_s_l1Below (h := h1) (m := 6) c1 (by omega)
  have w1 : IntKind.wrap .i64 (1 + x1) = 1 + x1 := w64 (by omega) (by omega)
  have w2 : IntKind.wrap .i64 (1 + x2) = 1 + x2 := w64 (by omega) (by omega)
  have := g_s_l6Model (ds := [.sl cd, .int i, .int h]) (Q := fun q => ∃ (l : List OpS) (i' h' : Int), q = [vO l, .sl cd, .int i', .int h'] ∧ (1 ≤ l.length ∧ l.length ≤ 6 ∧ ∀ o ∈ l, o.p.length ≤ 36) ∧ Cur cd i') (by
    unfold t_s_l6Model
    simp only [wp_ask, c_bool, den_var, denL_cons, denL_nil, den_int, den_bool, D.b_bool, nth_zero, nth_succ, forall_const, den_call', e1, e2, true_and]
    refine wp_loop (fun k vs => ∃ (j : Nat) (m i' h' : Int) (l : List OpS), vs = [.int j, .int m, vO l, .int i', .int h'] ∧ (j + l.length = (1 + x2).toNat ∧ (∀ o ∈ l, o.p.length ≤ 36)) ∧ Cur cd i' ∧ j = k) rfl (1 + x2).toNat ⟨(1 + x2).toNat, 1 + x1, i2, h2, [], ?_, ⟨by simp, by simp⟩, c2, rfl⟩ ?_
    · simp [e1, e2, w1, w2, vO]
      omega
    rintro k _ ⟨j, m, i', h', l, rfl, ⟨hl, hl'⟩, hc', rfl⟩
    obtain ⟨o, i3, h3, e3, b3, c3⟩ := L_s_l5Op (h := h') (m := m) hc'
    by_cases hj : 0 < j
    · have wj : IntKind.wrap .i64 ((j : Int) - 1) = ((j - 1 : Nat) : Int) := by rw [w64 (by omega) (by omega)]; omega
      simp [e3, chunks, vO_push, hj, wj]
      refine ⟨by omega, _, ?_, j - 1, _, _, _, _, ⟨rfl, rfl, rfl, rfl, rfl⟩, ⟨?_, ?_⟩, c3, rfl⟩
      · omega
      · simp; omega
      · intro q hq
        simp at hq
        rcases hq with hq | rfl
        · exact hl' q hq
        · exact b3
    · simp [hj]
      exact ⟨l, _, ⟨rfl, rfl⟩, ⟨by omega, by omega, hl'⟩, hc'⟩)
  obtain ⟨h1, x, i', h', h2, h3⟩ := this
  exact ⟨x, i', h', ⟨h1, h2⟩, h3⟩

end Go.Sx
