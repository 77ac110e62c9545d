/-
  What the program's functions compute, as plain data: each from its tree.
-/
import Derived.Test.YtnglgoloeabbeaaXsR
namespace Go.Sx
open Go
set_option linter.unusedSimpArgs false
set_option linter.unusedVariables false


/-! ### The law's own sizes, copies and comparisons -/

theorem L_w_szIntS {l : List Int} {n : Int} (hl : Lo l) (hn : -1 ≤ n ∧ n ≤ 1048576) : ∃ m : Int, (Pr w_szIntS [vI l, .int n] ∧ G w_szIntS [vI l, .int n] = [.int m]) ∧ (-1 ≤ m ∧ m ≤ 1048576) ∧ (0 ≤ m → l.length ≤ 1048576) := by
  unfold Lo at hl
  have w : IntKind.wrap .i64 (n - (l.length : Int)) = n - l.length := w64 (by omega) (by omega)
  by_cases h : n - (l.length : Int) < 0
  · exact ⟨-1, g_w_szIntS (Q := fun q => q = _) (by unfold t_w_szIntS; simp [w, h]), by omega, by omega⟩
  · exact ⟨n - l.length, g_w_szIntS (Q := fun q => q = _) (by unfold t_w_szIntS; simp [w, h]), by omega, by omega⟩
theorem L_w_szOp {a b c : D} {l : List Int} {n : Int} (hl : Lo l) (hn : -1 ≤ n ∧ n ≤ 1048576) : ∃ m : Int, (Pr w_szOp [a, b, c, vI l, .int n] ∧ G w_szOp [a, b, c, vI l, .int n] = [.int m]) ∧ (-1 ≤ m ∧ m ≤ 1048576) ∧ (0 ≤ m → l.length ≤ 1048576) := by
  obtain ⟨m, e, b1, c1⟩ := L_w_szIntS hl hn
  by_cases h : m < 0
  · exact ⟨-1, g_w_szOp (Q := fun q => q = _) (by unfold t_w_szOp; simp [e, h]), by omega, by omega⟩
  · exact ⟨m, g_w_szOp (Q := fun q => q = _) (by unfold t_w_szOp; simp [e, h]), by omega, c1⟩
theorem L_w_szRow {l : List Int} {n : Int} (hl : Lo l) (hn : -1 ≤ n ∧ n ≤ 1048576) : ∃ m : Int, (Pr w_szRow [vI l, .int n] ∧ G w_szRow [vI l, .int n] = [.int m]) ∧ (-1 ≤ m ∧ m ≤ 1048576) ∧ (0 ≤ m → l.length ≤ 1048576) := by
  obtain ⟨m, e, b1, c1⟩ := L_w_szIntS hl hn
  by_cases h : m < 0
  · exact ⟨-1, g_w_szRow (Q := fun q => q = _) (by unfold t_w_szRow; simp [e, h]), by omega, by omega⟩
  · exact ⟨m, g_w_szRow (Q := fun q => q = _) (by unfold t_w_szRow; simp [e, h]), by omega, c1⟩
/-- A size that is left, and what it tells. -/
def SzP (p : Prop) (q : List D) : Prop := ∃ m : Int, q = [.int m] ∧ (-1 ≤ m ∧ m ≤ 1048576) ∧ (0 ≤ m → p)
theorem SzP.no {p : Prop} : SzP p [.int (-1)] := ⟨-1, rfl, by omega, fun h => by omega⟩
theorem SzP.mk {p : Prop} {m : Int} (h : -1 ≤ m ∧ m ≤ 1048576) (hp : 0 ≤ m → p) : SzP p [.int m] := ⟨m, rfl, h, hp⟩

theorem L_w_szOpS {l : List OpS} {n : Int} (hl : Lo l) (ho : ∀ o ∈ l, Lo o.p) (hn : -1 ≤ n ∧ n ≤ 1048576) : ∃ m : Int, (Pr w_szOpS [vO l, .int n] ∧ G w_szOpS [vO l, .int n] = [.int m]) ∧ (-1 ≤ m ∧ m ≤ 1048576) ∧ (0 ≤ m → Mo l) := by
  have := g_w_szOpS (ds := [vO l, .int n]) (Q := SzP (Mo l)) (by
    unfold Lo at hl
    have w : IntKind.wrap .i64 (n - (l.length : Int)) = n - l.length := w64 (by omega) (by omega)
    unfold t_w_szOpS
    by_cases h : n - (l.length : Int) < 0
    · simp [w, h]
      exact .no
    · simp [w, h]
      refine wp_loop (fun k vs => ∃ (j : Nat) (m : Int), vs = [.int j, .int m] ∧ (0 ≤ m ∧ m ≤ 1048576) ∧ (∀ o ∈ l.take j, o.p.length ≤ 1048576) ∧ j ≤ l.length ∧ k = l.length - j) rfl l.length ⟨0, n - l.length, by simp [w], by omega, by simp, by omega, rfl⟩ ?_
      rintro k _ ⟨j, m, rfl, hm, ha, hj, rfl⟩
      by_cases hlt : j < l.length
      · obtain ⟨x, hx⟩ := at_some hlt
        obtain ⟨m', e, b, c⟩ := L_w_szOp (a := .int x.k) (b := .int x.i) (c := .int x.o) (ho x (List.mem_of_getElem? hx)) (n := m) (by omega)
        by_cases hm' : m' < 0
        · simp [-getElem?_pos, hlt, cel_vO0 hx, cel_vO1 hx, cel_vO2 hx, cel_vO3 hx, e, hm']
          exact .no
        · simp [-getElem?_pos, hlt, cel_vO0 hx, cel_vO1 hx, cel_vO2 hx, cel_vO3 hx, e, hm']
          exact ⟨l.length - (j + 1), by omega, j + 1, m', ⟨wS (by omega), rfl⟩, by omega, forall_step ha hx (c (by omega)), by omega, rfl⟩
      · have : j = l.length := by omega
        subst this
        rw [List.take_length] at ha
        simp
        exact .mk (by omega) fun _ => ⟨by unfold Sm; omega, ha⟩)
  obtain ⟨h1, m, h2, h3⟩ := this
  exact ⟨m, ⟨h1, h2⟩, h3⟩
theorem L_w_szRowS {l : List (List Int)} {n : Int} (hl : Lo l) (ho : ∀ o ∈ l, Lo o) (hn : -1 ≤ n ∧ n ≤ 1048576) : ∃ m : Int, (Pr w_szRowS [vR l, .int n] ∧ G w_szRowS [vR l, .int n] = [.int m]) ∧ (-1 ≤ m ∧ m ≤ 1048576) ∧ (0 ≤ m → Gk l) := by
  have := g_w_szRowS (ds := [vR l, .int n]) (Q := SzP (Gk l)) (by
    unfold Lo at hl
    have w : IntKind.wrap .i64 (n - (l.length : Int)) = n - l.length := w64 (by omega) (by omega)
    unfold t_w_szRowS
    by_cases h : n - (l.length : Int) < 0
    · simp [w, h]
      exact .no
    · simp [w, h]
      refine wp_loop (fun k vs => ∃ (j : Nat) (m : Int), vs = [.int j, .int m] ∧ (0 ≤ m ∧ m ≤ 1048576) ∧ (∀ o ∈ l.take j, o.length ≤ 1048576) ∧ j ≤ l.length ∧ k = l.length - j) rfl l.length ⟨0, n - l.length, by simp [w], by omega, by simp, by omega, rfl⟩ ?_
      rintro k _ ⟨j, m, rfl, hm, ha, hj, rfl⟩
      by_cases hlt : j < l.length
      · obtain ⟨x, hx⟩ := at_some hlt
        obtain ⟨m', e, b, c⟩ := L_w_szRow (ho x (List.mem_of_getElem? hx)) (n := m) (by omega)
        by_cases hm' : m' < 0
        · simp [-getElem?_pos, hlt, cel_vR hx, e, hm']
          exact .no
        · simp [-getElem?_pos, hlt, cel_vR hx, e, hm']
          exact ⟨l.length - (j + 1), by omega, j + 1, m', ⟨wS (by omega), rfl⟩, by omega, forall_step ha hx (c (by omega)), by omega, rfl⟩
      · have : j = l.length := by omega
        subst this
        rw [List.take_length] at ha
        simp
        exact .mk (by omega) fun _ => ⟨by unfold Sm; omega, ha⟩)
  obtain ⟨h1, m, h2, h3⟩ := this
  exact ⟨m, ⟨h1, h2⟩, h3⟩
theorem L_w_szModel {l : List OpS} {n : Int} (hl : Lo l) (ho : ∀ o ∈ l, Lo o.p) (hn : -1 ≤ n ∧ n ≤ 1048576) : ∃ m : Int, (Pr w_szModel [vO l, .int n] ∧ G w_szModel [vO l, .int n] = [.int m]) ∧ (-1 ≤ m ∧ m ≤ 1048576) ∧ (0 ≤ m → Mo l) := by
  obtain ⟨m, e, b1, c1⟩ := L_w_szOpS hl ho hn
  by_cases h : m < 0
  · exact ⟨-1, g_w_szModel (Q := fun q => q = _) (by unfold t_w_szModel; simp [e, h]), by omega, by omega⟩
  · exact ⟨m, g_w_szModel (Q := fun q => q = _) (by unfold t_w_szModel; simp [e, h]), by omega, c1⟩
theorem L_w_szSwing {l : List (List Int)} {x : D} {n : Int} (hl : Lo l) (ho : ∀ o ∈ l, Lo o) (hn : -1 ≤ n ∧ n ≤ 1048576) : ∃ m : Int, (Pr w_szSwing [vR l, x, .int n] ∧ G w_szSwing [vR l, x, .int n] = [.int m]) ∧ (-1 ≤ m ∧ m ≤ 1048576) ∧ (0 ≤ m → Gk l) := by
  obtain ⟨m, e, b1, c1⟩ := L_w_szRowS hl ho hn
  by_cases h : m < 0
  · exact ⟨-1, g_w_szSwing (Q := fun q => q = _) (by unfold t_w_szSwing; simp [e, h]), by omega, by omega⟩
  · exact ⟨m, g_w_szSwing (Q := fun q => q = _) (by unfold t_w_szSwing; simp [e, h]), by omega, c1⟩
theorem L_w_szGrads {l : List (List Int)} {x y : D} {n : Int} (hl : Lo l) (ho : ∀ o ∈ l, Lo o) (hn : -1 ≤ n ∧ n ≤ 1048576) : ∃ m : Int, (Pr w_szGrads [vR l, x, y, .int n] ∧ G w_szGrads [vR l, x, y, .int n] = [.int m]) ∧ (-1 ≤ m ∧ m ≤ 1048576) ∧ (0 ≤ m → Gk l) := by
  obtain ⟨m, e, b1, c1⟩ := L_w_szRowS hl ho hn
  by_cases h : m < 0
  · exact ⟨-1, g_w_szGrads (Q := fun q => q = _) (by unfold t_w_szGrads; simp [e, h]), by omega, by omega⟩
  · exact ⟨m, g_w_szGrads (Q := fun q => q = _) (by unfold t_w_szGrads; simp [e, h]), by omega, c1⟩

/-! Copies -/

theorem vI_set {l : List Int} {n : Nat} {v : Int} : D.sl ((vI l).l.modify n fun x => x.set 0 (.int v)) = vI (l.set n v) := by
  unfold vI
  simp only [D.l_sl]
  rw [modify_map (h := fun _ => v) (by intro a; rfl), modify_const]
/-- The first of one, then the rest of another. -/
theorem mix_step {α : Type} {l c : List α} {j : Nat} {x : α} (hx : l[j]? = some x) (hn : c.length = l.length) : (l.take j ++ c.drop j).set j x = l.take (j + 1) ++ c.drop (j + 1) := by
  have hj := lt_of_at hx
  apply List.ext_getElem?
  intro i
  have h1 : (l.take j).length = j := by simp; omega
  rw [List.getElem?_set]
  by_cases h : j = i
  · subst h
    rw [if_pos rfl, if_pos (by simp; omega), List.getElem?_append_left (by simp; omega), List.getElem?_take, if_pos (by omega), hx]
  · rw [if_neg h]
    by_cases h2 : i < j
    · rw [List.getElem?_append_left (by omega), List.getElem?_append_left (by simp; omega), List.getElem?_take, List.getElem?_take, if_pos h2, if_pos (by omega)]
    · rw [List.getElem?_append_right (by omega), List.getElem?_append_right (by simp; omega), h1, List.getElem?_drop, List.getElem?_drop]
      congr 1
      simp
      omega
theorem mix_len {α : Type} {l c : List α} {j : Nat} (hn : c.length = l.length) (hj : j ≤ l.length) : (l.take j ++ c.drop j).length = l.length := by
  simp
  omega

theorem L_w_toIntS {l : List Int} (h : Sm l) : Pr w_toIntS [vI l] ∧ G w_toIntS [vI l] = [vI l] :=
  g_w_toIntS (Q := fun q => q = _) (by
    unfold Sm at h
    unfold t_w_toIntS
    simp
    refine ⟨by omega, ?_⟩
    refine wp_loop (fun k vs => ∃ j : Nat, vs = [.int j, vI (l.take j ++ (List.replicate l.length 0).drop j)] ∧ j ≤ l.length ∧ k = l.length - j) rfl l.length ⟨0, by simp [rep_vI], by omega, rfl⟩ ?_
    rintro k _ ⟨j, rfl, hj, rfl⟩
    have hm := mix_len (l := l) (c := List.replicate l.length 0) (j := j) (by simp) hj
    by_cases hlt : j < l.length
    · obtain ⟨x, hx⟩ := at_some hlt
      simp [-getElem?_pos, -List.drop_replicate, -List.length_append, -List.length_take, hlt, hx, hm, vI_set]
      exact ⟨l.length - (j + 1), by omega, j + 1, ⟨wS (by omega), by rw [mix_step hx (by simp)]⟩, by omega, rfl⟩
    · have : j = l.length := by omega
      subst this
      simp)

def fillO (l : List OpS) (j : Nat) : List OpS := l.take j ++ (List.replicate l.length ⟨0, 0, 0, []⟩).drop j
theorem vO_set_all {l : List OpS} {n : Nat} {x : OpS} : D.sl (((((vO l).l.modify n fun a => a.set 0 (.int x.k)).modify n fun a => a.set 1 (.int x.i)).modify n fun a => a.set 2 (.int x.o)).modify n fun a => a.set 3 (vI x.p)) = vO (l.set n x) := by
  unfold vO
  simp only [D.l_sl]
  rw [List.modify_modify_eq, List.modify_modify_eq, List.modify_modify_eq]
  rw [modify_map (h := fun _ => x) (by intro a; rfl), modify_const]
theorem L_w_toOp {a b c : D} {l : List Int} (h : Sm l) : Pr w_toOp [a, b, c, vI l] ∧ G w_toOp [a, b, c, vI l] = [a, b, c, vI l] :=
  g_w_toOp (Q := fun q => q = _) (by unfold t_w_toOp; simp [L_w_toIntS h])
theorem L_w_toRow {l : List Int} (h : Sm l) : Pr w_toRow [vI l] ∧ G w_toRow [vI l] = [vI l] :=
  g_w_toRow (Q := fun q => q = _) (by unfold t_w_toRow; simp [L_w_toIntS h])
theorem rep_vO {n : Nat} : D.sl (List.replicate n [.int 0, .int 0, .int 0, .sl []]) = vO (List.replicate n ⟨0, 0, 0, []⟩) := by simp [vO, vI]
theorem L_w_toOpS {l : List OpS} (h : Mo l) : Pr w_toOpS [vO l] ∧ G w_toOpS [vO l] = [vO l] :=
  g_w_toOpS (Q := fun q => q = _) (by
    have h1 := h.1
    unfold Sm at h1
    unfold t_w_toOpS
    simp
    refine ⟨by omega, ?_⟩
    refine wp_loop (fun k vs => ∃ j : Nat, vs = [.int j, vO (fillO l j)] ∧ j ≤ l.length ∧ k = l.length - j) rfl l.length ⟨0, by simp [rep_vO, fillO], by omega, rfl⟩ ?_
    rintro k _ ⟨j, rfl, hj, rfl⟩
    have hm : (fillO l j).length = l.length := mix_len (by simp) hj
    by_cases hlt : j < l.length
    · obtain ⟨x, hx⟩ := at_some hlt
      simp [-getElem?_pos, hlt, cel_vO0 hx, cel_vO1 hx, cel_vO2 hx, cel_vO3 hx, L_w_toOp (h.at hx), hm, vO_set_all]
      exact ⟨l.length - (j + 1), by omega, j + 1, ⟨wS (by omega), by unfold fillO; rw [← mix_step hx (by simp)]⟩, by omega, rfl⟩
    · have : j = l.length := by omega
      subst this
      simp [fillO])
theorem L_w_toRowS {l : List (List Int)} (h : Gk l) : Pr w_toRowS [vR l] ∧ G w_toRowS [vR l] = [vR l] :=
  g_w_toRowS (Q := fun q => q = _) (by
    have h1 := h.1
    unfold Sm at h1
    unfold t_w_toRowS
    simp
    refine ⟨by omega, ?_⟩
    refine wp_loop (fun k vs => ∃ j : Nat, vs = [.int j, vR (l.take j ++ (List.replicate l.length []).drop j)] ∧ j ≤ l.length ∧ k = l.length - j) rfl l.length ⟨0, by simp [vR_rep], by omega, rfl⟩ ?_
    rintro k _ ⟨j, rfl, hj, rfl⟩
    have hm := mix_len (l := l) (c := List.replicate l.length []) (j := j) (by simp) hj
    by_cases hlt : j < l.length
    · obtain ⟨x, hx⟩ := at_some hlt
      simp [-getElem?_pos, -List.drop_replicate, -List.length_append, -List.length_take, hlt, cel_vR hx, L_w_toRow (h.2.at hx), hm, vR_set]
      exact ⟨l.length - (j + 1), by omega, j + 1, ⟨wS (by omega), by rw [mix_step hx (by simp)]⟩, by omega, rfl⟩
    · have : j = l.length := by omega
      subst this
      simp)
theorem L_w_toModel {l : List OpS} (h : Mo l) : Pr w_toModel [vO l] ∧ G w_toModel [vO l] = [vO l] :=
  g_w_toModel (Q := fun q => q = _) (by unfold t_w_toModel; simp [L_w_toOpS h])
theorem L_w_toSwing {l : List (List Int)} {x : D} (h : Gk l) : Pr w_toSwing [vR l, x] ∧ G w_toSwing [vR l, x] = [vR l, x] :=
  g_w_toSwing (Q := fun q => q = _) (by unfold t_w_toSwing; simp [L_w_toRowS h])
theorem L_w_toGrads {l : List (List Int)} {x y : D} (h : Gk l) : Pr w_toGrads [vR l, x, y] ∧ G w_toGrads [vR l, x, y] = [vR l, x, y] :=
  g_w_toGrads (Q := fun q => q = _) (by unfold t_w_toGrads; simp [L_w_toRowS h])

/-! Comparisons, of one with itself -/

theorem L_w_eqIntS {l : List Int} (h : Sm l) : Pr w_eqIntS [vI l, vI l] ∧ G w_eqIntS [vI l, vI l] = [.bool true] :=
  g_w_eqIntS (Q := fun q => q = _) (by
    unfold Sm at h
    unfold t_w_eqIntS
    simp
    refine wp_loop (fun k vs => ∃ j : Nat, vs = [.int j] ∧ j ≤ l.length ∧ k = l.length - j) rfl l.length ⟨0, rfl, by omega, by omega⟩ ?_
    rintro k _ ⟨j, rfl, hj, rfl⟩
    by_cases hlt : j < l.length
    · simp [hlt]
      exact ⟨_, by omega, j + 1, wS (by omega), by omega, rfl⟩
    · simp [hlt])
theorem L_w_eqOp {a b c : Int} {l : List Int} (h : Sm l) : Pr w_eqOp [.int a, .int b, .int c, vI l, .int a, .int b, .int c, vI l] ∧ G w_eqOp [.int a, .int b, .int c, vI l, .int a, .int b, .int c, vI l] = [.bool true] :=
  g_w_eqOp (Q := fun q => q = _) (by unfold t_w_eqOp; simp [L_w_eqIntS h])
theorem L_w_eqRow {l : List Int} (h : Sm l) : Pr w_eqRow [vI l, vI l] ∧ G w_eqRow [vI l, vI l] = [.bool true] :=
  g_w_eqRow (Q := fun q => q = _) (by unfold t_w_eqRow; simp [L_w_eqIntS h])
theorem L_w_eqOpS {l : List OpS} (h : Mo l) : Pr w_eqOpS [vO l, vO l] ∧ G w_eqOpS [vO l, vO l] = [.bool true] :=
  g_w_eqOpS (Q := fun q => q = _) (by
    have h1 := h.1
    unfold Sm at h1
    unfold t_w_eqOpS
    simp
    refine wp_loop (fun k vs => ∃ j : Nat, vs = [.int j] ∧ j ≤ l.length ∧ k = l.length - j) rfl l.length ⟨0, rfl, by omega, by omega⟩ ?_
    rintro k _ ⟨j, rfl, hj, rfl⟩
    by_cases hlt : j < l.length
    · obtain ⟨x, hx⟩ := at_some hlt
      simp [-getElem?_pos, hlt, cel_vO0 hx, cel_vO1 hx, cel_vO2 hx, cel_vO3 hx, L_w_eqOp (h.at hx)]
      exact ⟨_, by omega, j + 1, wS (by omega), by omega, rfl⟩
    · simp [hlt])
theorem L_w_eqRowS {l : List (List Int)} (h : Gk l) : Pr w_eqRowS [vR l, vR l] ∧ G w_eqRowS [vR l, vR l] = [.bool true] :=
  g_w_eqRowS (Q := fun q => q = _) (by
    have h1 := h.1
    unfold Sm at h1
    unfold t_w_eqRowS
    simp
    refine wp_loop (fun k vs => ∃ j : Nat, vs = [.int j] ∧ j ≤ l.length ∧ k = l.length - j) rfl l.length ⟨0, rfl, by omega, by omega⟩ ?_
    rintro k _ ⟨j, rfl, hj, rfl⟩
    by_cases hlt : j < l.length
    · obtain ⟨x, hx⟩ := at_some hlt
      simp [-getElem?_pos, hlt, cel_vR hx, L_w_eqRow (h.2.at hx)]
      exact ⟨_, by omega, j + 1, wS (by omega), by omega, rfl⟩
    · simp [hlt])
theorem L_w_eqModel {l : List OpS} (h : Mo l) : Pr w_eqModel [vO l, vO l] ∧ G w_eqModel [vO l, vO l] = [.bool true] :=
  g_w_eqModel (Q := fun q => q = _) (by unfold t_w_eqModel; simp [L_w_eqOpS h])
theorem L_w_eqSwing {l : List (List Int)} {x : Int} (h : Gk l) : Pr w_eqSwing [vR l, .int x, vR l, .int x] ∧ G w_eqSwing [vR l, .int x, vR l, .int x] = [.bool true] :=
  g_w_eqSwing (Q := fun q => q = _) (by unfold t_w_eqSwing; simp [L_w_eqRowS h])
theorem L_w_eqGrads {l : List (List Int)} {x : Int} {b : Bool} (h : Gk l) : Pr w_eqGrads [vR l, .int x, .bool b, vR l, .int x, .bool b] ∧ G w_eqGrads [vR l, .int x, .bool b, vR l, .int x, .bool b] = [.bool true] :=
  g_w_eqGrads (Q := fun q => q = _) (by unfold t_w_eqGrads; simp [L_w_eqRowS h])

end Go.Sx
