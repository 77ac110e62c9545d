/-
  What the program's functions compute, as plain data: each from its tree.
-/
import Derived.Test.YtnglgoloeabbeaaSwA
namespace Go.Sx
open Go
set_option linter.unusedSimpArgs false
set_option linter.unusedVariables false


theorem mk1 {x : D} : chunks 1 1 [x] = [[x]] := rfl
def opOk (o : OpS) : Bool := decide (1 ≤ o.k ∧ o.k ≤ 5) && decide (1 ≤ o.i ∧ o.i ≤ 6) && decide (1 ≤ o.o ∧ o.o ≤ 6) && (decide (o.k = 1) || decide (o.i = o.o)) && decide ((o.p.length : Int) = opSize o.k o.i o.o) && o.p.all fixOk

theorem opOk_iff {o : OpS} : opOk o = true ↔ (1 ≤ o.k ∧ o.k ≤ 5) ∧ (1 ≤ o.i ∧ o.i ≤ 6) ∧ (1 ≤ o.o ∧ o.o ≤ 6) ∧ (o.k = 1 ∨ o.i = o.o) ∧ (o.p.length : Int) = opSize o.k o.i o.o ∧ o.p.all fixOk = true := by
  simp only [opOk, Bool.and_eq_true, Bool.or_eq_true, decide_eq_true_eq]
  constructor
  · rintro ⟨⟨⟨⟨⟨a, b⟩, c⟩, d⟩, e⟩, f⟩
    exact ⟨a, b, c, d, e, f⟩
  · rintro ⟨a, b, c, d, e, f⟩
    exact ⟨⟨⟨⟨⟨a, b⟩, c⟩, d⟩, e⟩, f⟩


/-- A model whose operations fit. -/
def ModelP (l : List OpS) : Prop := (1 ≤ l.length ∧ l.length ≤ 8) ∧ (∀ o ∈ l, opOk o = true) ∧ ∀ (j : Nat) (x y : OpS), l[j]? = some x → l[j + 1]? = some y → y.i = x.o
def inOf (l : List OpS) : Int := (l.getD 0 default).i
def outOf (l : List OpS) : Int := (l.getD (l.length - 1) default).o
theorem getD_at {α : Type} [Inhabited α] {l : List α} {j : Nat} {x : α} (hx : l[j]? = some x) : l.getD j default = x := by simp [List.getD_eq_getElem?_getD, hx]

set_option maxRecDepth 100000 in
theorem L_s_l2Fix {cd : List (List D)} {i h : Int} (hc : Cur cd i) : ∃ x i' h' : Int, (Pr s_l2Fix [.sl cd, .int i, .int h] ∧ G s_l2Fix [.sl cd, .int i, .int h] = [.int x, .sl cd, .int i', .int h']) ∧ fixOk x = true ∧ Cur cd i' := by
  obtain ⟨x1, i1, h1, e1, b1, c1⟩ := L_s_l1Below (h := h) (m := 12) hc (by omega)
  obtain ⟨x2, i2, h2, e2, b2, c2⟩ := L_s_l1PickInt (h := h1) (l := [2147483647, -2147483647, 2147483646, 1, -1, 0]) c1 (by decide)
  obtain ⟨x3, i3, h3, e3, b3, c3⟩ := L_s_l1Below (h := h1) (m := 4000) c1 (by omega)
  obtain ⟨x4, i4, h4, e4, b4, c4⟩ := L_s_l1Below (h := h1) (m := 9) c1 (by omega)
  obtain ⟨x5, i5, h5, e5, b5, c5⟩ := L_s_l1Below (h := h1) (m := 17) c1 (by omega)
  obtain ⟨x6, i6, h6, e6, b6, c6⟩ := L_s_l1PickInt (h := h5) (l := [1, 1, 2, 4, 3]) c5 (by decide)
  have v6 : D.sl (chunks 1 6 [.int 2147483647, .int (-2147483647), .int 2147483646, .int 1, .int (-1), .int 0]) = vI [2147483647, -2147483647, 2147483646, 1, -1, 0] := rfl
  have v5 : D.sl (chunks 1 5 [.int 1, .int 1, .int 2, .int 4, .int 3]) = vI [1, 1, 2, 4, 3] := rfl
  have u1 : IntKind.wrap .i64 (x3 - 2000) = x3 - 2000 := w64 (by omega) (by omega)
  have u2 : IntKind.wrap .i64 ((x3 - 2000) * 997) = (x3 - 2000) * 997 := w64 (by omega) (by omega)
  have u3 : IntKind.wrap .i64 (x4 - 4) = x4 - 4 := w64 (by omega) (by omega)
  have u4 : IntKind.wrap .i64 (x5 - 8) = x5 - 8 := w64 (by omega) (by omega)
  have u5 : IntKind.wrap .i64 ((x5 - 8) * 65536) = (x5 - 8) * 65536 := w64 (by omega) (by omega)
  have t := Int.natAbs_tdiv_le_natAbs ((x5 - 8) * 65536) x6
  have u6 : IntKind.wrap .i64 (((x5 - 8) * 65536).tdiv x6) = ((x5 - 8) * 65536).tdiv x6 := w64 (by omega) (by omega)
  have := g_s_l2Fix (ds := [.sl cd, .int i, .int h]) (Q := fun o => ∃ x i' h' : Int, o = [.int x, .sl cd, .int i', .int h'] ∧ fixOk x = true ∧ Cur cd i') (by
    unfold t_s_l2Fix
    simp [e1, e3, e4, e5, v6, v5, e2, e6, u1, u2, u3, u4, u5, u6]
    split
    · refine ⟨_, _, ⟨rfl, rfl⟩, fixOk_of ?_, c2⟩
      simp at b2
      omega
    · split
      · exact ⟨_, _, ⟨rfl, rfl⟩, fixOk_of (by omega), c3⟩
      · split
        · exact ⟨_, _, ⟨rfl, rfl⟩, fixOk_of (by omega), c4⟩
        · refine ⟨?_, _, _, ⟨rfl, rfl⟩, fixOk_of (by omega), c6⟩
          simp at b6
          omega)
  obtain ⟨h1, x, i', h', h2, h3⟩ := this
  exact ⟨x, i', h', ⟨h1, h2⟩, h3⟩

theorem all_push {l : List Int} {x : Int} (h : l.all fixOk = true) (hx : fixOk x = true) : (l ++ [x]).all fixOk = true := by simp only [List.all_append, h, List.all_cons, hx, List.all_nil, Bool.and_self]

theorem L_s_l3Vec {cd : List (List D)} {i h m : Int} (hc : Cur cd i) (hm : m ≤ 1000) : ∃ (l : List Int) (i' h' : Int), (Pr s_l3Vec [.sl cd, .int i, .int h, .int m] ∧ G s_l3Vec [.sl cd, .int i, .int h, .int m] = [vI l, .sl cd, .int i', .int h']) ∧ (l.length = m.toNat ∧ l.all fixOk = true) ∧ Cur cd i' := by
  have := g_s_l3Vec (ds := [.sl cd, .int i, .int h, .int m]) (Q := fun o => ∃ (l : List Int) (i' h' : Int), o = [vI l, .sl cd, .int i', .int h'] ∧ (l.length = m.toNat ∧ l.all fixOk = true) ∧ Cur cd i') (by
    unfold t_s_l3Vec
    refine wp_loop (fun k vs => ∃ (j : Nat) (i' h' : Int) (l : List Int), vs = [.int j, .int i', .int h', vI l] ∧ (l.length = j ∧ l.all fixOk = true) ∧ j ≤ m.toNat ∧ Cur cd i' ∧ k = m.toNat - j) rfl m.toNat ⟨0, i, h, [], rfl, ⟨rfl, rfl⟩, by omega, hc, rfl⟩ ?_
    rintro k _ ⟨j, i', h', l, rfl, ⟨hl, hf⟩, h0, hc', rfl⟩
    obtain ⟨x1, i1, h1, e1, f1, c1⟩ := L_s_l2Fix (h := h') hc'
    simp [-List.all_eq_true, e1, mk1, vI_push]
    split
    · rename_i hj
      rw [wS (by omega)]
      exact ⟨by omega, _, by omega, j + 1, _, _, _, ⟨rfl, rfl, rfl, rfl⟩, ⟨by simp [hl], all_push hf f1⟩, by omega, c1, rfl⟩
    · exact ⟨l, _, ⟨rfl, rfl⟩, ⟨by omega, hf⟩, hc'⟩)
  obtain ⟨h1, x, i', h', h2, h3⟩ := this
  exact ⟨x, i', h', ⟨h1, h2⟩, h3⟩

theorem L_s_l5Op {cd : List (List D)} {i h m : Int} (hc : Cur cd i) (hm : 1 ≤ m ∧ m ≤ 6) : ∃ (o : OpS) (i' h' : Int), (Pr s_l5Op [.sl cd, .int i, .int h, .int m] ∧ G s_l5Op [.sl cd, .int i, .int h, .int m] = [.int o.k, .int o.i, .int o.o, vI o.p, .sl cd, .int i', .int h']) ∧ (opOk o = true ∧ o.i = m) ∧ Cur cd i' := by
  obtain ⟨x1, i1, h1, e1, b1, c1⟩ := L_s_l1Below (h := h) (m := 5) hc (by omega)
  obtain ⟨x2, i2, h2, e2, b2, c2⟩ := L_s_l1Below (h := h1) (m := 3) c1 (by omega)
  have s1 := @opSize_le (1 + x1) m (1 + x2)
  have s2 := @opSize_le (1 + x1) m m
  obtain ⟨l3, i3, h3, e3, b3, c3⟩ := L_s_l3Vec (h := h2) (m := opSize (1 + x1) m (1 + x2)) c2 (by omega)
  obtain ⟨l4, i4, h4, e4, b4, c4⟩ := L_s_l3Vec (h := h1) (m := opSize (1 + x1) m m) c1 (by omega)
  have w1 : IntKind.wrap .i64 (1 + x1) = 1 + x1 := w64 (by omega) (by omega)
  have w2 : IntKind.wrap .i64 (1 + x2) = 1 + x2 := w64 (by omega) (by omega)
  have := g_s_l5Op (ds := [.sl cd, .int i, .int h, .int m]) (Q := fun q => ∃ (o : OpS) (i' h' : Int), q = [.int o.k, .int o.i, .int o.o, vI o.p, .sl cd, .int i', .int h'] ∧ (opOk o = true ∧ o.i = m) ∧ Cur cd i') (by
    unfold t_s_l5Op
    simp [e1, w1, e2, w2, e3, e4]
    split
    · rename_i hk
      refine ⟨⟨_, _, _, _⟩, _, ⟨rfl, rfl, rfl, rfl, rfl⟩, ⟨opOk_iff.mpr ⟨?_, hm, ?_, .inl ?_, ?_, b3.2⟩, rfl⟩, c3⟩
      · show 1 ≤ 1 + x1 ∧ 1 + x1 ≤ 5
        omega
      · show 1 ≤ 1 + x2 ∧ 1 + x2 ≤ 6
        omega
      · exact hk
      · show (l3.length : Int) = opSize (1 + x1) m (1 + x2)
        omega
    · refine ⟨⟨_, _, _, _⟩, _, ⟨rfl, rfl, rfl, rfl, rfl⟩, ⟨opOk_iff.mpr ⟨?_, hm, hm, .inr rfl, ?_, b4.2⟩, rfl⟩, c4⟩
      · show 1 ≤ 1 + x1 ∧ 1 + x1 ≤ 5
        omega
      · show (l4.length : Int) = opSize (1 + x1) m m
        omega)
  obtain ⟨h1, x, i', h', h2, h3⟩ := this
  exact ⟨x, i', h', ⟨h1, h2⟩, h3⟩

/-- A model as it grows: its operations fit, and the next is to take so many. -/
def Chain (l : List OpS) (m : Int) : Prop := (1 ≤ m ∧ m ≤ 6) ∧ (∀ o ∈ l, opOk o = true) ∧ (∀ (j : Nat) (x y : OpS), l[j]? = some x → l[j + 1]? = some y → y.i = x.o) ∧ ∀ (x : OpS), l[l.length - 1]? = some x → x.o = m
theorem Chain.nil {m : Int} (h : 1 ≤ m ∧ m ≤ 6) : Chain [] m :=
  And.intro h (And.intro (fun o ho => nomatch ho) (And.intro (fun j x y hx => nomatch hx) (fun x hx => nomatch hx)))
theorem Chain.push {l : List OpS} {m : Int} (h : Chain l m) {o : OpS} (ho : opOk o = true) (hi : o.i = m) : Chain (l ++ [o]) o.o := by
  obtain ⟨h1, h2, h3, h4⟩ := h
  refine ⟨(opOk_iff.mp ho).2.2.1, ?_, ?_, ?_⟩
  · intro q hq
    rcases List.mem_append.mp hq with hq | hq
    · exact h2 q hq
    · cases List.mem_singleton.mp hq
      exact ho
  · intro j x y hx hy
    by_cases hj : j + 1 < l.length
    · rw [List.getElem?_append_left (by omega)] at hx hy
      exact h3 j x y hx hy
    · by_cases hj2 : j + 1 = l.length
      · rw [List.getElem?_append_left (by omega)] at hx
        rw [List.getElem?_append_right (by omega), show j + 1 - l.length = 0 by omega] at hy
        simp at hy
        subst hy
        rw [hi, h4 x (by rw [show l.length - 1 = j by omega]; exact hx)]
      · rw [List.getElem?_append_right (by omega)] at hy
        rw [List.getElem?_eq_none (by simp; omega)] at hy
        cases hy
  · intro x hx
    simp at hx
    rw [hx]

theorem L_s_l6Model {cd : List (List D)} {i h : Int} (hc : Cur cd i) : ∃ (l : List OpS) (i' h' : Int), (Pr s_l6Model [.sl cd, .int i, .int h] ∧ G s_l6Model [.sl cd, .int i, .int h] = [vO l, .sl cd, .int i', .int h']) ∧ (ModelP l ∧ l.length ≤ 6) ∧ Cur cd i' := by
  obtain ⟨x1, i1, h1, e1, b1, c1⟩ := L_s_l1Below (h := h) (m := 3) hc (by omega)
  obtain ⟨x2, i2, h2, e2, b2, c2⟩ := L_s_l1Below (h := h1) (m := 6) c1 (by omega)
  have w1 : IntKind.wrap .i64 (1 + x1) = 1 + x1 := w64 (by omega) (by omega)
  have w2 : IntKind.wrap .i64 (1 + x2) = 1 + x2 := w64 (by omega) (by omega)
  have := g_s_l6Model (ds := [.sl cd, .int i, .int h]) (Q := fun q => ∃ (l : List OpS) (i' h' : Int), q = [vO l, .sl cd, .int i', .int h'] ∧ (ModelP l ∧ l.length ≤ 6) ∧ Cur cd i') (by
    unfold t_s_l6Model
    simp only [wp_ask, c_bool, den_var, denL_cons, denL_nil, den_int, den_bool, D.b_bool, nth_zero, nth_succ, forall_const, den_call', e1, e2, true_and]
    refine wp_loop (fun k vs => ∃ (j : Nat) (m i' h' : Int) (l : List OpS), vs = [.int j, .int m, vO l, .int i', .int h'] ∧ (j + l.length = (1 + x2).toNat ∧ Chain l m) ∧ Cur cd i' ∧ j = k) rfl (1 + x2).toNat ⟨(1 + x2).toNat, 1 + x1, i2, h2, [], ?_, ⟨by simp, Chain.nil (by omega)⟩, c2, rfl⟩ ?_
    · simp [e1, e2, w1, w2, vO]
      omega
    rintro k _ ⟨j, m, i', h', l, rfl, ⟨hl, hch⟩, hc', rfl⟩
    obtain ⟨o, i3, h3, e3, b3, c3⟩ := L_s_l5Op (h := h') (m := m) hc' hch.1
    by_cases hj : 0 < j
    · have wj : IntKind.wrap .i64 ((j : Int) - 1) = ((j - 1 : Nat) : Int) := by rw [w64 (by omega) (by omega)]; omega
      simp [e3, chunks, vO_push, hj, wj]
      refine ⟨by omega, _, ?_, j - 1, _, _, _, _, ⟨rfl, rfl, rfl, rfl, rfl⟩, ⟨?_, hch.push b3.1 b3.2⟩, c3, rfl⟩
      · omega
      · simp; omega
    · simp [hj]
      exact ⟨l, _, ⟨rfl, rfl⟩, ⟨⟨⟨by omega, by omega⟩, hch.2.1, hch.2.2.1⟩, by omega⟩, hc'⟩)
  obtain ⟨h1, x, i', h', h2, h3⟩ := this
  exact ⟨x, i', h', ⟨h1, h2⟩, h3⟩

end Go.Sx
