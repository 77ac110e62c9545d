/-
  What the program's functions compute, as plain data: each from its tree.
-/
import Derived.Test.YtnglgoloeabbeaaArH
namespace Go.Sx
open Go
set_option linter.unusedSimpArgs false
set_option linter.unusedVariables false

theorem vI_eta {l : List Int} : D.sl (vI l).l = vI l := rfl
theorem vR_eta {l : List (List Int)} : D.sl (vR l).l = vR l := rfl
theorem vG_eta {l : List GrS} : D.sl (vG l).l = vG l := rfl

theorem L_i_copyInts {l : List Int} (h : Sm l) : Pr i_copyInts [vI l] ∧ G i_copyInts [vI l] = [vI l] :=
  g_i_copyInts (Q := fun q => q = _) (by
    unfold Sm at h
    unfold t_i_copyInts
    simp [vI_eta]
    omega)

def IT (r : List (List Int)) (k : Nat) (vs : List D) : Prop := ∃ j : Nat, vs = [.int j, vR (r.take j)] ∧ j ≤ r.length ∧ k = r.length - j
theorem IT.start {r : List (List Int)} : IT r r.length [.int 0, vR []] := ⟨0, rfl, Nat.zero_le _, rfl⟩
theorem IT.again {r : List (List Int)} {j : Nat} {x : List Int} {i : Int} (hx : r[j]? = some x) (hi : i = ((j + 1 : Nat) : Int)) : ∃ k', k' < r.length - j ∧ IT r k' [.int i, vR (r.take j ++ [x])] := by
  have := lt_of_at hx
  exact ⟨r.length - (j + 1), by omega, j + 1, by rw [hi, take_step hx], this, rfl⟩

theorem L_i_copyRows {r : List (List Int)} (h : Gk r) : Pr i_copyRows [vR r] ∧ G i_copyRows [vR r] = [vR r] :=
  g_i_copyRows (Q := fun q => q = _) (by
    obtain ⟨h, h'⟩ := h
    unfold Sm at h
    unfold t_i_copyRows
    refine wp_loop (IT r) rfl r.length .start ?_
    rintro k _ ⟨j, rfl, hj, rfl⟩
    by_cases hlt : j < r.length
    · obtain ⟨x, hx⟩ := at_some hlt
      simp [-getElem?_pos, hlt, cel_vR hx, L_i_copyInts (h'.at hx), mk1, vR_push]
      exact ⟨by omega, IT.again hx (wS (by omega))⟩
    · have : j = r.length := by omega
      subst this
      simp)

theorem L_i_copyGrads {r : List (List Int)} {x y : D} (h : Gk r) : Pr i_copyGrads [vR r, x, y] ∧ G i_copyGrads [vR r, x, y] = [vR r, x, y] :=
  g_i_copyGrads (Q := fun q => q = _) (by
    unfold t_i_copyGrads
    simp [L_i_copyRows h])

theorem L_s_l11Rows {r : List (List Int)} (h : Gk r) : Pr s_l11Rows [vR r] ∧ G s_l11Rows [vR r] = [vR r] :=
  g_s_l11Rows (Q := fun q => q = _) (by
    obtain ⟨h, h'⟩ := h
    unfold Sm at h
    unfold t_s_l11Rows
    refine wp_loop (IT r) rfl r.length .start ?_
    rintro k _ ⟨j, rfl, hj, rfl⟩
    by_cases hlt : j < r.length
    · obtain ⟨x, hx⟩ := at_some hlt
      have hx' := h'.at hx
      simp [-getElem?_pos, hlt, cel_vR hx, mk1, vI_eta, vR_push]
      exact ⟨by omega, by omega, IT.again hx (wS (by omega))⟩
    · have : j = r.length := by omega
      subst this
      simp)

theorem L_s_l7Same {r : List (List Int)} {x y : D} (h : Gk r) : Pr s_l7Same [vR r, x, y] ∧ G s_l7Same [vR r, x, y] = [vR r, x, y] :=
  g_s_l7Same (Q := fun q => q = _) (by
    unfold t_s_l7Same
    simp [L_s_l11Rows h])

def IGs (r : List GrS) (k : Nat) (vs : List D) : Prop := ∃ j : Nat, vs = [.int j, vG (r.take j)] ∧ j ≤ r.length ∧ k = r.length - j
theorem IGs.start {r : List GrS} : IGs r r.length [.int 0, vG []] := ⟨0, rfl, Nat.zero_le _, rfl⟩
theorem IGs.again {r : List GrS} {j : Nat} {x : GrS} {i : Int} (hx : r[j]? = some x) (hi : i = ((j + 1 : Nat) : Int)) : ∃ k', k' < r.length - j ∧ IGs r k' [.int i, vG (r.take j ++ [x])] := by
  have := lt_of_at hx
  exact ⟨r.length - (j + 1), by omega, j + 1, by rw [hi, take_step hx], this, rfl⟩
theorem vG_take {l : List GrS} {n : Nat} : D.sl ((vG l).l.take n) = vG (l.take n) := by simp [vG]

theorem L_i_RingNew {l : List GrS} (h : l.length ≤ 4) (hg : Gs l) : Pr i_RingNew [vG l] ∧ G i_RingNew [vG l] = [vG l, .int 0] :=
  g_i_RingNew (Q := fun q => q = _) (by
    unfold t_i_RingNew
    have h4 : ¬ (4 : Int) < l.length := by omega
    simp [h4, vG_take]
    refine wp_loop (IGs l) rfl l.length .start ?_
    rintro k _ ⟨j, rfl, hj, rfl⟩
    by_cases hlt : j < l.length
    · obtain ⟨x, hx⟩ := at_some hlt
      simp [-getElem?_pos, hlt, h4, vG_take, cel_vG0 hx, cel_vG1 hx, cel_vG2 hx, L_i_copyGrads (hg.at hx), chunks, vG_push]
      exact ⟨by omega, IGs.again hx (wS (by omega))⟩
    · have : j = l.length := by omega
      subst this
      simp [h4, vG_take])

@[simp] theorem L_i_clamp {x : Int} : Pr i_clamp [.int x] ∧ G i_clamp [.int x] = [.int (l2In x)] :=
  g_i_clamp (Q := fun q => q = _) (by
    unfold t_i_clamp
    simp [l2In, l2Sat]
    split <;> split <;> (try split) <;> simp <;> omega)
@[simp] theorem L_i_FixOk {x : Int} : Pr i_FixOk [.int x] ∧ G i_FixOk [.int x] = [.bool (fixOk x)] :=
  g_i_FixOk (Q := fun q => q = _) (by
    unfold t_i_FixOk
    simp [fixOk]
    omega)
theorem l2Sat_ok {x : Int} : (l2Sat x).2 = !(fixOk x) := by
  unfold l2Sat fixOk
  split
  · simp; omega
  · split
    · simp; omega
    · simp; omega
@[simp] theorem L_i_settle {x : Int} : Pr i_settle [.int x] ∧ G i_settle [.int x] = [.int (l2Sat x).1, .bool (l2Sat x).2] :=
  g_i_settle (Q := fun q => q = _) (by
    unfold t_i_settle
    simp [l2Sat_ok, l2In])
@[simp] theorem L_i_FixAdd {x y : Int} : Pr i_FixAdd [.int x, .int y] ∧ G i_FixAdd [.int x, .int y] = [.int (fixAdd x y).1, .bool (fixAdd x y).2] :=
  g_i_FixAdd (Q := fun q => q = _) (by
    have h1 := @l2In_le x
    have h2 := @l2In_le y
    have w : IntKind.wrap .i64 (l2In x + l2In y) = l2In x + l2In y := w64 (by omega) (by omega)
    unfold t_i_FixAdd
    simp [w, fixAdd])

theorem or4 (s t a b : Bool) : (((s = true ∨ t = true) ∨ a = true) ∨ b = true) ∨ ((s = false ∧ t = false) ∧ a = false) ∧ b = false := by
  cases s <;> cases t <;> cases a <;> cases b <;> simp
def IGi (s : Bool) (a b : List (List Int)) (c : Nat) (r r' : List Int) (k : Nat) (vs : List D) : Prop := ∃ j : Nat, vs = [.int c, .int j, .bool ((s || anyT ((List.zipWith addS a b).take c)) || anyT ((List.zipWith (fun x y => (fixAdd x y).2) r r').take j)), vR ((List.zipWith addV a b).take c), vI ((List.zipWith (fun x y => (fixAdd x y).1) r r').take j)] ∧ j ≤ r.length ∧ k = r.length - j

theorem L_i_AddGrads {a b : List (List Int)} {x y : Int} {s t : Bool} (ha : Gk a) (hb : Gk b) : Pr i_AddGrads [vR a, .int x, .bool s, vR b, .int y, .bool t] ∧ G i_AddGrads [vR a, .int x, .bool s, vR b, .int y, .bool t] = [vR (addR a b), .int (fixAdd x y).1, .bool (((s || t) || addT a b) || (fixAdd x y).2)] :=
  g_i_AddGrads (Q := fun q => q = _) (by
    unfold t_i_AddGrads
    simp
    refine wp_loop (IG (s || t) a b) rfl a.length ⟨0, by simp [vR, anyT], by omega, by omega⟩ ?_
    rintro m _ ⟨j, rfl, hj, rfl⟩
    obtain ⟨ha, ha'⟩ := ha
    obtain ⟨hb, hb'⟩ := hb
    unfold Sm at ha hb
    by_cases hlt : j < a.length ∧ j < b.length
    · obtain ⟨r, hr⟩ := at_some hlt.1
      obtain ⟨r', hr'⟩ := at_some hlt.2
      have hrl := ha'.at hr
      have hrl' := hb'.at hr'
      simp [-getElem?_pos, hlt.1, hlt.2]
      refine wp_loop (IGi (s || t) a b j r r') rfl r.length ⟨0, by simp [vI, anyT], by omega, by omega⟩ ?_
      rintro m _ ⟨i, rfl, hi, rfl⟩
      by_cases hl2 : i < r.length ∧ i < r'.length
      · obtain ⟨x, hx⟩ := at_some hl2.1
        obtain ⟨y, hy⟩ := at_some hl2.2
        simp [-getElem?_pos, hlt.1, hlt.2, hl2.1, hl2.2, cel_vR hr, cel_vR hr', hx, hy, mk1, vI_push]
        refine ⟨by omega, or4 _ _ _ _, r.length - (i + 1), by omega, i + 1, ?_, by omega, rfl⟩
        rw [wS (by omega), take_step (zip_at hx hy), take_step (zip_at hx hy), anyT_push]
        simp [Bool.or_assoc]
      · have e1 := take_end (f := fun x y => (fixAdd x y).1) hl2
        have e2 := take_end (f := fun x y => (fixAdd x y).2) hl2
        rw [e1, e2]
        simp [-getElem?_pos, hlt.1, hlt.2, cel_vR hr, cel_vR hr', mk1, vR_push]
        rw [if_neg (by omega)]
        refine ⟨by omega, by omega, a.length - (j + 1), by omega, j + 1, ?_, by omega, rfl⟩
        rw [wS (by omega), take_step (zip_at hr hr'), take_step (zip_at hr hr'), anyT_push]
        simp [Bool.or_assoc, addV, addS]
    · have e1 := take_end (f := addV) hlt
      have e2 := take_end (f := addS) hlt
      rw [e1, e2]
      simp
      rw [if_neg (by omega)]
      refine ⟨by omega, ?_, rfl, rfl⟩
      cases s <;> cases t <;> simp)

theorem vG_set {l : List GrS} {n : Nat} {r : List (List Int)} {x : Int} {s : Bool} : D.sl ((((vG l).l.modify n fun a => a.set 0 (vR r)).modify n fun a => a.set 1 (.int x)).modify n fun a => a.set 2 (.bool s)) = vG (l.set n ⟨r, x, s⟩) := by
  unfold vG
  simp only [D.l_sl]
  rw [List.modify_modify_eq, List.modify_modify_eq]
  rw [modify_map (h := fun _ => ⟨r, x, s⟩) (by intro a; rfl), modify_const]

/-- What a step of the ring does. -/
def rstep (b : List GrS) (t : Nat) : List GrS :=
  if t + 1 < b.length then b.set (t + 1) (gAdd (b.getD t default) (b.getD (t + 1) default)) else b.set (t + 1 - b.length) (b.getD (b.length - 1) default)

theorem getD_at {l : List GrS} {j : Nat} {x : GrS} (hx : l[j]? = some x) : l.getD j default = x := by simp [List.getD_eq_getElem?_getD, hx]

theorem L_i_RingStep {b : List GrS} {t : Nat} (h : b.length ≤ 4) (hg : Gs b) (ht : t ≤ 100) : Pr i_RingStep [vG b, .int t] ∧ G i_RingStep [vG b, .int t] = if t + 2 < 2 * b.length then [vG (rstep b t), .int ((t + 1 : Nat) : Int)] else [vG b, .int t] :=
  g_i_RingStep (Q := fun q => q = _) (by
    unfold t_i_RingStep
    refine wp_loop (IGs b) rfl b.length .start ?_
    rintro k _ ⟨j, rfl, hj, rfl⟩
    by_cases hlt : j < b.length
    · obtain ⟨x, hx⟩ := at_some hlt
      simp [-getElem?_pos, hlt, cel_vG0 hx, cel_vG1 hx, cel_vG2 hx, L_i_copyGrads (hg.at hx), chunks, vG_push]
      exact ⟨by omega, IGs.again hx (wS (by omega))⟩
    · have : j = b.length := by omega
      subst this
      have w1 : IntKind.wrap .i64 (2 * (b.length : Int)) = 2 * (b.length : Int) := w64 (by omega) (by omega)
      have w2 : IntKind.wrap .i64 (2 * (b.length : Int) - 3) = 2 * (b.length : Int) - 3 := w64 (by omega) (by omega)
      have w3 : IntKind.wrap .i64 ((b.length : Int) - 2) = (b.length : Int) - 2 := w64 (by omega) (by omega)
      by_cases c1 : t + 2 < 2 * b.length
      · by_cases c2 : t + 1 < b.length
        · obtain ⟨x, hx⟩ := at_some (l := b) (n := t) (by omega)
          obtain ⟨y, hy⟩ := at_some (l := b) (n := t + 1) (by omega)
          have w4 : IntKind.wrap .i64 ((t : Int) + 1) = ((t + 1 : Nat) : Int) := wS (by omega)
          have e := L_i_AddGrads (a := x.rows) (b := y.rows) (x := x.loss) (y := y.loss) (s := x.sat) (t := y.sat) (hg.at hx) (hg.at hy)
          have n1 : ¬ (2 * (b.length : Int) - 3 < t) := by omega
          have n2 : (t : Int) ≤ b.length - 2 := by omega
          simp [-getElem?_pos, -Int.natCast_add, w1, w2, w3, w4, n1, n2, c1, c2, cel_vG0 hx, cel_vG1 hx, cel_vG2 hx, cel_vG0 hy, cel_vG1 hy, cel_vG2 hy, e, vG_set]
          rw [if_neg (by omega)]
          refine ⟨by omega, ?_⟩
          simp only [rstep, if_pos c2, getD_at hx, getD_at hy, gAdd]
        · obtain ⟨x, hx⟩ := at_some (l := b) (n := b.length - 1) (by omega)
          have w4 : IntKind.wrap .i64 ((t : Int) + 1) = ((t + 1 : Nat) : Int) := wS (by omega)
          have w5 : IntKind.wrap .i64 ((b.length : Int) - 1) = ((b.length - 1 : Nat) : Int) := by rw [w64 (by omega) (by omega)]; omega
          have w6 : IntKind.wrap .i64 ((t : Int) - ((b.length - 1 : Nat) : Int)) = ((t + 1 - b.length : Nat) : Int) := by rw [w64 (by omega) (by omega)]; omega
          have n1 : ¬ (2 * (b.length : Int) - 3 < t) := by omega
          have n2 : ¬ (t : Int) ≤ b.length - 2 := by omega
          simp [-getElem?_pos, -Int.natCast_add, w1, w2, w3, w4, w5, w6, n1, n2, c1, c2, cel_vG0 hx, cel_vG1 hx, cel_vG2 hx, L_i_copyGrads (hg.at hx), vG_set]
          rw [if_neg (by omega)]
          refine ⟨by omega, by omega, ?_⟩
          simp only [rstep, if_neg c2, getD_at hx]
      · simp [w1, w2, c1]
        intro hh
        exact absurd hh (by omega))

/-- What comes together up to here. -/
def pre (l : List GrS) : Nat → GrS
  | 0 => l.getD 0 default
  | n + 1 => gAdd (pre l n) (l.getD (n + 1) default)

def IAT (l : List GrS) (k : Nat) (vs : List D) : Prop := ∃ j : Nat, vs = [.int ((j + 1 : Nat) : Int), .int (pre l j).loss, .bool (pre l j).sat, vR (pre l j).rows] ∧ j < l.length ∧ k = l.length - j

theorem pre_ok {l : List GrS} (h : Gs l) {j : Nat} (hj : j < l.length) : Gr (pre l j) := by
  induction j with
  | zero =>
    obtain ⟨x, hx⟩ := at_some hj
    simp only [pre]
    rw [getD_at hx]
    exact h.at hx
  | succ j ih => exact addR_Gk (ih (by omega))

theorem L_s_AllTogether {l : List GrS} (h : 1 ≤ l.length ∧ l.length ≤ 4) (hg : Gs l) : Pr s_AllTogether [vG l] ∧ G s_AllTogether [vG l] = [vR (pre l (l.length - 1)).rows, .int (pre l (l.length - 1)).loss, .bool (pre l (l.length - 1)).sat] :=
  g_s_AllTogether (Q := fun q => q = _) (by
    unfold t_s_AllTogether
    obtain ⟨x, hx⟩ := at_some (l := l) (n := 0) (by omega)
    have c0 := cel_vG0 hx
    have c1 := cel_vG1 hx
    have c2 := cel_vG2 hx
    simp only [Int.natCast_zero] at c0 c1 c2
    have e := fun a b => L_s_l7Same (x := a) (y := b) (hg.at hx)
    have n0 : ¬ (l.length : Int) = 0 := by omega
    simp [-getElem?_pos, c0, c1, c2, e, n0]
    rw [if_neg (by intro hh; subst hh; simp at h)]
    refine ⟨by omega, ?_⟩
    refine wp_loop (IAT l) rfl l.length ⟨0, by simp [-getElem?_pos, -List.getD_eq_getElem?_getD, c0, c1, c2, e, pre, getD_at hx], by omega, by omega⟩ ?_
    rintro m _ ⟨j, rfl, hj, rfl⟩
    by_cases hlt : j + 1 < l.length
    · obtain ⟨y, hy⟩ := at_some hlt
      have e4 := L_s_AddGrads (a := (pre l j).rows) (b := y.rows) (x := (pre l j).loss) (y := y.loss) (s := (pre l j).sat) (t := y.sat) (pre_ok hg hj) (hg.at hy)
      simp [-getElem?_pos, -Int.natCast_add, hlt, cel_vG0 hy, cel_vG1 hy, cel_vG2 hy, e4]
      exact ⟨l.length - (j + 1), by omega, j + 1, by rw [wS (by omega)]; simp [-List.getD_eq_getElem?_getD, pre, getD_at hy, gAdd], hlt, rfl⟩
    · have : j = l.length - 1 := by omega
      subst this
      have : ¬ (((l.length - 1 + 1 : Nat) : Int) < l.length) := by omega
      simp [-Int.natCast_add, this])

end Go.Sx
