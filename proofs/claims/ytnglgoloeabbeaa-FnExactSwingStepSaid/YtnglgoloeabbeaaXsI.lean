/-
  What the program's functions compute, as plain data: each from its tree.
-/
import Derived.Test.YtnglgoloeabbeaaXsH
namespace Go.Sx
open Go
set_option linter.unusedSimpArgs false
set_option linter.unusedVariables false


theorem vI_eta {l : List Int} : D.sl (vI l).l = vI l := rfl
theorem vR_eta {l : List (List Int)} : D.sl (vR l).l = vR l := rfl
theorem vG_eta {l : List GrS} : D.sl (vG l).l = vG l := rfl

theorem L_i_copyInts {l : List Int} (h : Sm l) : Pr i_copyInts [vI l] ∧ G i_copyInts [vI l] = [vI l] :=
  g_i_copyInts (Q := fun q => q = _) (by
    unfold Sm at h
    unfold t_i_copyInts
    simp [vI_eta]
    omega)

def IT (r : List (List Int)) (k : Nat) (vs : List D) : Prop := ∃ j : Nat, vs = [.int j, vR (r.take j)] ∧ j ≤ r.length ∧ k = r.length - j
theorem IT.start {r : List (List Int)} : IT r r.length [.int 0, vR []] := ⟨0, rfl, Nat.zero_le _, rfl⟩
theorem IT.again {r : List (List Int)} {j : Nat} {x : List Int} {i : Int} (hx : r[j]? = some x) (hi : i = ((j + 1 : Nat) : Int)) : ∃ k', k' < r.length - j ∧ IT r k' [.int i, vR (r.take j ++ [x])] := by
  have := lt_of_at hx
  exact ⟨r.length - (j + 1), by omega, j + 1, by rw [hi, take_step hx], this, rfl⟩

theorem L_i_copyRows {r : List (List Int)} (h : Gk r) : Pr i_copyRows [vR r] ∧ G i_copyRows [vR r] = [vR r] :=
  g_i_copyRows (Q := fun q => q = _) (by
    obtain ⟨h, h'⟩ := h
    unfold Sm at h
    unfold t_i_copyRows
    refine wp_loop (IT r) rfl r.length .start ?_
    rintro k _ ⟨j, rfl, hj, rfl⟩
    by_cases hlt : j < r.length
    · obtain ⟨x, hx⟩ := at_some hlt
      simp [-getElem?_pos, hlt, cel_vR hx, L_i_copyInts (h'.at hx), mk1, vR_push]
      exact ⟨by omega, IT.again hx (wS (by omega))⟩
    · have : j = r.length := by omega
      subst this
      simp)

theorem L_s_l11Rows {r : List (List Int)} (h : Gk r) : Pr s_l11Rows [vR r] ∧ G s_l11Rows [vR r] = [vR r] :=
  g_s_l11Rows (Q := fun q => q = _) (by
    obtain ⟨h, h'⟩ := h
    unfold Sm at h
    unfold t_s_l11Rows
    refine wp_loop (IT r) rfl r.length .start ?_
    rintro k _ ⟨j, rfl, hj, rfl⟩
    by_cases hlt : j < r.length
    · obtain ⟨x, hx⟩ := at_some hlt
      have hx' := h'.at hx
      simp [-getElem?_pos, hlt, cel_vR hx, mk1, vI_eta, vR_push]
      exact ⟨by omega, by omega, IT.again hx (wS (by omega))⟩
    · have : j = r.length := by omega
      subst this
      simp)

def IGs (r : List GrS) (k : Nat) (vs : List D) : Prop := ∃ j : Nat, vs = [.int j, vG (r.take j)] ∧ j ≤ r.length ∧ k = r.length - j
theorem IGs.start {r : List GrS} : IGs r r.length [.int 0, vG []] := ⟨0, rfl, Nat.zero_le _, rfl⟩
theorem IGs.again {r : List GrS} {j : Nat} {x : GrS} {i : Int} (hx : r[j]? = some x) (hi : i = ((j + 1 : Nat) : Int)) : ∃ k', k' < r.length - j ∧ IGs r k' [.int i, vG (r.take j ++ [x])] := by
  have := lt_of_at hx
  exact ⟨r.length - (j + 1), by omega, j + 1, by rw [hi, take_step hx], this, rfl⟩
theorem vG_take {l : List GrS} {n : Nat} : D.sl ((vG l).l.take n) = vG (l.take n) := by simp [vG]

@[simp] theorem L_i_clamp {x : Int} : Pr i_clamp [.int x] ∧ G i_clamp [.int x] = [.int (l2In x)] :=
  g_i_clamp (Q := fun q => q = _) (by
    unfold t_i_clamp
    simp [l2In, l2Sat]
    split <;> split <;> (try split) <;> simp <;> omega)
@[simp] theorem L_i_FixOk {x : Int} : Pr i_FixOk [.int x] ∧ G i_FixOk [.int x] = [.bool (fixOk x)] :=
  g_i_FixOk (Q := fun q => q = _) (by
    unfold t_i_FixOk
    simp [fixOk]
    omega)
theorem l2Sat_ok {x : Int} : (l2Sat x).2 = !(fixOk x) := by
  unfold l2Sat fixOk
  split
  · simp; omega
  · split
    · simp; omega
    · simp; omega
@[simp] theorem L_i_settle {x : Int} : Pr i_settle [.int x] ∧ G i_settle [.int x] = [.int (l2Sat x).1, .bool (l2Sat x).2] :=
  g_i_settle (Q := fun q => q = _) (by
    unfold t_i_settle
    simp [l2Sat_ok, l2In])
@[simp] theorem L_i_FixAdd {x y : Int} : Pr i_FixAdd [.int x, .int y] ∧ G i_FixAdd [.int x, .int y] = [.int (fixAdd x y).1, .bool (fixAdd x y).2] :=
  g_i_FixAdd (Q := fun q => q = _) (by
    have h1 := @l2In_le x
    have h2 := @l2In_le y
    have w : IntKind.wrap .i64 (l2In x + l2In y) = l2In x + l2In y := w64 (by omega) (by omega)
    unfold t_i_FixAdd
    simp [w, fixAdd])

theorem or4 (s t a b : Bool) : (((s = true ∨ t = true) ∨ a = true) ∨ b = true) ∨ ((s = false ∧ t = false) ∧ a = false) ∧ b = false := by
  cases s <;> cases t <;> cases a <;> cases b <;> simp
def IGi (s : Bool) (a b : List (List Int)) (c : Nat) (r r' : List Int) (k : Nat) (vs : List D) : Prop := ∃ j : Nat, vs = [.int c, .int j, .bool ((s || anyT ((List.zipWith addS a b).take c)) || anyT ((List.zipWith (fun x y => (fixAdd x y).2) r r').take j)), vR ((List.zipWith addV a b).take c), vI ((List.zipWith (fun x y => (fixAdd x y).1) r r').take j)] ∧ j ≤ r.length ∧ k = r.length - j

theorem vG_set {l : List GrS} {n : Nat} {r : List (List Int)} {x : Int} {s : Bool} : D.sl ((((vG l).l.modify n fun a => a.set 0 (vR r)).modify n fun a => a.set 1 (.int x)).modify n fun a => a.set 2 (.bool s)) = vG (l.set n ⟨r, x, s⟩) := by
  unfold vG
  simp only [D.l_sl]
  rw [List.modify_modify_eq, List.modify_modify_eq]
  rw [modify_map (h := fun _ => ⟨r, x, s⟩) (by intro a; rfl), modify_const]

/-- What a step of the ring does. -/
def rstep (b : List GrS) (t : Nat) : List GrS :=
  if t + 1 < b.length then b.set (t + 1) (gAdd (b.getD t default) (b.getD (t + 1) default)) else b.set (t + 1 - b.length) (b.getD (b.length - 1) default)


/-- What comes together up to here. -/
def pre (l : List GrS) : Nat → GrS
  | 0 => l.getD 0 default
  | n + 1 => gAdd (pre l n) (l.getD (n + 1) default)

def IAT (l : List GrS) (k : Nat) (vs : List D) : Prop := ∃ j : Nat, vs = [.int ((j + 1 : Nat) : Int), .int (pre l j).loss, .bool (pre l j).sat, vR (pre l j).rows] ∧ j < l.length ∧ k = l.length - j

theorem pre_ok {l : List GrS} (h : Gs l) {j : Nat} (hj : j < l.length) : Gr (pre l j) := by
  induction j with
  | zero =>
    obtain ⟨x, hx⟩ := at_some hj
    simp only [pre]
    rw [getD_at hx]
    exact h.at hx
  | succ j ih => exact addR_Gk (ih (by omega))

end Go.Sx
