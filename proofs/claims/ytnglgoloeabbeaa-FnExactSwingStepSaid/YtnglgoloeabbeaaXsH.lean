/-
  What the program's functions compute, as plain data: each from its tree.
-/
import Derived.Test.YtnglgoloeabbeaaXsG
namespace Go.Sx
open Go
set_option linter.unusedSimpArgs false
set_option linter.unusedVariables false


/-- Rows that are not too many and not too long. -/
def Gk (r : List (List Int)) : Prop := Sm r ∧ Al 1048576 r
def OutG (l : List OpS) (q : List D) : Prop := ∃ (r : List (List Int)) (x : Int) (b : Bool), q = [vR r, .int x, .bool b] ∧ FitP l r ∧ Al 1048576 r
theorem OutG.mk {l : List OpS} {r : List (List Int)} {x : Int} {b : Bool} (h : FitP l r) (h' : Al 1048576 r) : OutG l [vR r, .int x, .bool b] := ⟨r, x, b, rfl, h, h'⟩
theorem vecOk_Sm {l : List Int} (h : vecOk l = true) : Sm l := by
  have := (vecOk_iff.mp h).1
  unfold Sm
  omega
theorem BatchP.one {l : List OpS} {p : List (List Int × List Int)} (h : BatchP l p) {x : List Int × List Int} (hx : x ∈ p) : BatchP l [(x.1, x.2)] :=
  ⟨h.1, by simp, fun q hq => by cases List.mem_singleton.mp hq; exact h.2.2 x hx⟩
theorem vP_one {x y : List Int} : D.sl (chunks 2 1 [vI x, vI y]) = vP [(x, y)] := rfl

/-! ### Adding, exactly -/

/-- Is one of them true? -/
def anyT : List Bool → Bool
  | [] => false
  | b :: l => b || anyT l
theorem anyT_push (l : List Bool) (b : Bool) : anyT (l ++ [b]) = (anyT l || b) := by
  induction l with
  | nil => simp [anyT]
  | cons a l ih => simp [anyT, ih, Bool.or_assoc]

def addV (a b : List Int) : List Int := List.zipWith (fun x y => (fixAdd x y).1) a b
def addS (a b : List Int) : Bool := anyT (List.zipWith (fun x y => (fixAdd x y).2) a b)
def addR (a b : List (List Int)) : List (List Int) := List.zipWith addV a b
def addT (a b : List (List Int)) : Bool := anyT (List.zipWith addS a b)
def gAdd (g h : GrS) : GrS := ⟨addR g.rows h.rows, (fixAdd g.loss h.loss).1, ((g.sat || h.sat) || addT g.rows h.rows) || (fixAdd g.loss h.loss).2⟩

theorem lt_of_at {α : Type} {l : List α} {j : Nat} {x : α} (hx : l[j]? = some x) : j < l.length := by
  rcases Nat.lt_or_ge j l.length with h | h
  · exact h
  · simp [List.getElem?_eq_none h] at hx
theorem take_step {α : Type} {l : List α} {j : Nat} {x : α} (hx : l[j]? = some x) : l.take (j + 1) = l.take j ++ [x] := by
  have hj := lt_of_at hx
  rw [List.take_succ_eq_append_getElem hj]
  rw [List.getElem?_eq_getElem hj] at hx
  simp at hx
  rw [hx]
theorem zip_at {α β γ : Type} {f : α → β → γ} {a : List α} {b : List β} {j : Nat} {x : α} {y : β} (hx : a[j]? = some x) (hy : b[j]? = some y) : (List.zipWith f a b)[j]? = some (f x y) := by
  simp [List.getElem?_zipWith, hx, hy]
theorem take_end {α β γ : Type} {f : α → β → γ} {a : List α} {b : List β} {j : Nat} (h : ¬ (j < a.length ∧ j < b.length)) : (List.zipWith f a b).take j = List.zipWith f a b := by
  rw [List.take_of_length_le]
  simp
  omega

def IA (a b : List Int) (k : Nat) (vs : List D) : Prop := ∃ j : Nat, vs = [.int j, .bool (anyT ((List.zipWith (fun x y => (fixAdd x y).2) a b).take j)), vI ((List.zipWith (fun x y => (fixAdd x y).1) a b).take j)] ∧ j ≤ a.length ∧ k = a.length - j

theorem addV_len {a b : List Int} : (addV a b).length ≤ a.length := by
  unfold addV
  simp
  omega
theorem addR_ok {a b : List (List Int)} (ha : Al 1048576 a) : (addR a b).length ≤ a.length ∧ Al 1048576 (addR a b) := by
  refine ⟨by unfold addR; simp; omega, ?_⟩
  intro r hr
  unfold addR at hr
  obtain ⟨j, hj⟩ := List.mem_iff_getElem?.mp hr
  rw [List.getElem?_zipWith] at hj
  cases h1 : a[j]? with
  | none => simp [h1] at hj
  | some x =>
    cases h2 : b[j]? with
    | none => simp [h1, h2] at hj
    | some y =>
      simp [h1, h2] at hj
      subst hj
      have := ha.at h1
      have := @addV_len x y
      omega

def IG (s : Bool) (a b : List (List Int)) (k : Nat) (vs : List D) : Prop := ∃ j : Nat, vs = [.int j, .bool (s || anyT ((List.zipWith addS a b).take j)), vR ((List.zipWith addV a b).take j)] ∧ j ≤ a.length ∧ k = a.length - j

/-- Gradients that are well sized. -/
def Gr (g : GrS) : Prop := Gk g.rows
def OutGr (l : List OpS) (q : List D) : Prop := ∃ g : GrS, q = [vR g.rows, .int g.loss, .bool g.sat] ∧ Gr g ∧ FitP l g.rows ∧ AllR g.rows
theorem OutGr.mk {l : List OpS} {r : List (List Int)} {x : Int} {s : Bool} (h : Gk r) (h' : FitP l r) (h2 : AllR r) : OutGr l [vR r, .int x, .bool s] := ⟨⟨r, x, s⟩, rfl, h, h', h2⟩
theorem addR_Gk {a b : List (List Int)} (ha : Gk a) : Gk (addR a b) := by
  have := addR_ok (b := b) ha.2
  have h := ha.1
  unfold Sm at h
  exact ⟨by unfold Sm; omega, this.2⟩
theorem addR_len {a b : List (List Int)} (h : a.length = b.length) : (addR a b).length = a.length := by
  unfold addR
  simp [h]
theorem addR_ok' {a b : List (List Int)} : AllR (addR a b) := by
  intro y hy
  obtain ⟨j, hj⟩ := List.mem_iff_getElem?.mp hy
  unfold addR at hj
  rw [List.getElem?_zipWith] at hj
  cases h1 : a[j]? with
  | none => simp [h1] at hj
  | some u =>
    cases h2 : b[j]? with
    | none => simp [h1, h2] at hj
    | some v =>
      simp [h1, h2] at hj
      subst hj
      rw [List.all_eq_true]
      intro x hx
      obtain ⟨i, hi⟩ := List.mem_iff_getElem?.mp hx
      unfold addV at hi
      rw [List.getElem?_zipWith] at hi
      cases h3 : u[i]? with
      | none => simp [h3] at hi
      | some p =>
        cases h4 : v[i]? with
        | none => simp [h3, h4] at hi
        | some q =>
          simp [h3, h4] at hi
          subst hi
          exact l2Sat_ok0
theorem addR_fit {l : List OpS} {a b : List (List Int)} (ha : FitP l a) (hb : FitP l b) : FitP l (addR a b) := by
  refine ⟨by rw [addR_len (by rw [ha.1, hb.1])]; exact ha.1, fun j x y hx hy => ?_⟩
  obtain ⟨u, hu⟩ := at_some (l := a) (n := j) (by have := ha.1; have := lt_of_at hx; omega)
  obtain ⟨v, hv⟩ := at_some (l := b) (n := j) (by have := hb.1; have := lt_of_at hx; omega)
  have h1 := ha.2 j x u hx hu
  have h2 := hb.2 j x v hx hv
  unfold addR at hy
  rw [zip_at hu hv] at hy
  cases hy
  unfold addV
  simp
  omega
def ISq (n : Nat) (l : List OpS) (k : Nat) (vs : List D) : Prop := ∃ (j : Nat) (x : Int) (s : Bool) (r : List (List Int)), vs = [.int j, .int x, .bool s, vR r] ∧ (Gk r ∧ FitP l r ∧ AllR r) ∧ j ≤ n ∧ k = n - j
theorem ISq.again {n j : Nat} {l : List OpS} {x : Int} {s : Bool} {r : List (List Int)} {i : Int} (hi : i = ((j + 1 : Nat) : Int)) (hr : Gk r) (hc : FitP l r) (h2 : AllR r) (hj : j < n) : ∃ k', k' < n - j ∧ ISq n l k' [.int i, .int x, .bool s, vR r] :=
  ⟨n - (j + 1), by omega, j + 1, x, s, r, by rw [hi], ⟨hr, hc, h2⟩, hj, rfl⟩

/-- A few gradients. -/
def Gs (l : List GrS) : Prop := ∀ g ∈ l, Gr g
theorem Gs.at {l : List GrS} (h : Gs l) {j : Nat} {x : GrS} (hx : l[j]? = some x) : Gk x.rows := h x (List.mem_of_getElem? hx)
theorem Gs.push {l : List GrS} (h : Gs l) {g : GrS} (hg : Gr g) : Gs (l ++ [g]) := mem_push h hg
theorem Gs.nil : Gs [] := by intro q hq; cases hq

end Go.Sx
