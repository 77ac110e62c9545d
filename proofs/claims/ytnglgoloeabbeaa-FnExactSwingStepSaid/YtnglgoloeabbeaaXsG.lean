/-
  What the program's functions compute, as plain data: each from its tree.
-/
import Derived.Test.YtnglgoloeabbeaaXsF
namespace Go.Sx
open Go
set_option linter.unusedSimpArgs false
set_option linter.unusedVariables false


theorem modify_map {α β : Type} {l : List α} {f : α → β} {n : Nat} {g : β → β} {h : α → α} (e : ∀ a, g (f a) = f (h a)) : (l.map f).modify n g = (l.modify n h).map f := by
  induction l generalizing n with
  | nil => cases n <;> rfl
  | cons a l ih =>
    cases n with
    | zero => simp [e]
    | succ n => simp [ih]
theorem modify_const {α : Type} {l : List α} {n : Nat} {y : α} : l.modify n (fun _ => y) = l.set n y := by
  induction l generalizing n with
  | nil => cases n <;> rfl
  | cons a l ih =>
    cases n with
    | zero => rfl
    | succ n => simp [ih]
theorem vR_set {l : List (List Int)} {n : Nat} {y : List Int} : D.sl ((vR l).l.modify n fun x => x.set 0 (vI y)) = vR (l.set n y) := by
  unfold vR
  simp only [D.l_sl]
  rw [modify_map (h := fun _ => y) (by intro a; rfl), modify_const]
theorem mem_set' {α : Type} {p : α → Prop} {l : List α} {n : Nat} {x : α} (h : ∀ q ∈ l, p q) (hx : p x) : ∀ q ∈ l.set n x, p q := by
  intro q hq
  rcases List.mem_or_eq_of_mem_set hq with hq | rfl
  · exact h q hq
  · exact hx

/-- Two numbers, a vector, a truth value. -/
def OutO (a b : List Int) (q : List D) : Prop := ∃ (x y : Int) (l : List Int) (s : Bool), q = [.int x, .int y, vI l, .bool s] ∧ l.length ≤ 36 ∧ (vecOk a = true → vecOk b = true → l.length = a.length * b.length)
theorem OutO.mk {a b : List Int} {x y : Int} {l : List Int} {s : Bool} (h : l.length ≤ 36) (h' : vecOk a = true → vecOk b = true → l.length = a.length * b.length) : OutO a b [.int x, .int y, vI l, .bool s] := ⟨x, y, l, s, rfl, h, h'⟩
def IOa (n m : Nat) (k : Nat) (vs : List D) : Prop := ∃ (j : Nat) (b : Bool) (r : List Int), vs = [.int j, .bool b, vI r] ∧ r.length = j * m ∧ j ≤ n ∧ k = n - j
def IOb (m c : Nat) (k : Nat) (vs : List D) : Prop := ∃ (j : Nat) (b : Bool) (r : List Int), vs = [.int c, .int j, .bool b, vI r] ∧ r.length = c * m + j ∧ j ≤ m ∧ k = m - j

/-- All is as the operation asks. -/
def BackO (k i o : Int) (p l g : List Int) : Prop := opOk ⟨k, i, o, p⟩ = true ∧ vecOk l = true ∧ (l.length : Int) = i ∧ vecOk g = true ∧ (g.length : Int) = o
def VVB (k i o : Int) (p l g : List Int) (q : List D) : Prop := ∃ (a b : List Int) (s : Bool), q = [vI a, vI b, .bool s] ∧ a.length ≤ 36 ∧ b.length ≤ 36 ∧ (BackO k i o p l g → a.all fixOk = true ∧ (a.length : Int) = i ∧ b.length = p.length)
theorem VVB.mk {k i o : Int} {p l g : List Int} {a b : List Int} {s : Bool} (h : a.length ≤ 36) (h' : b.length ≤ 36) (h2 : BackO k i o p l g → a.all fixOk = true ∧ (a.length : Int) = i ∧ b.length = p.length) : VVB k i o p l g [vI a, vI b, .bool s] := ⟨a, b, s, rfl, h, h', h2⟩

def FitFrom (l : List OpS) (k : Nat) (r : List (List Int)) : Prop := ∀ (i : Nat) (o : OpS) (y : List Int), k ≤ i → l[i]? = some o → r[i]? = some y → y.length = o.p.length
/-- What a backward run begins with. -/
def BackQ (l : List OpS) (x : List (List Int)) (g : List Int) : Prop := ModelP l ∧ InR l l.length x ∧ vecOk g = true ∧ (g.length : Int) = outOf l
def RVB (l : List OpS) (x : List (List Int)) (g : List Int) (q : List D) : Prop := ∃ (r : List (List Int)) (v : List Int) (b : Bool), q = [vR r, vI v, .bool b] ∧ r.length = l.length ∧ Al 1048576 r ∧ (BackQ l x g → FitFrom l 0 r)
/-- What the next operation down gives. -/
def outAt (l : List OpS) (k : Nat) : Int := if k = 0 then inOf l else (l.getD (k - 1) default).o
def IB (l : List OpS) (x : List (List Int)) (g : List Int) (k : Nat) (vs : List D) : Prop := ∃ (b : Bool) (v : List Int) (r : List (List Int)), vs = [.int ((k : Int) - 1), .bool b, vI v, vR r] ∧ (Sm v ∧ r.length = l.length ∧ Al 1048576 r ∧ (BackQ l x g → FitFrom l k r ∧ v.all fixOk = true ∧ (v.length : Int) = outAt l k)) ∧ k ≤ l.length
theorem vR_rep {n : Nat} : D.sl (List.replicate n [D.sl []]) = vR (List.replicate n []) := by simp [vR, vI]
theorem outAt_top {l : List OpS} (h : 1 ≤ l.length) : outAt l l.length = outOf l := by
  unfold outAt outOf
  rw [if_neg (by omega)]
theorem outAt_in {l : List OpS} (h : ModelP l) {k : Nat} {o : OpS} (ho : l[k]? = some o) : outAt l k = o.i := by
  unfold outAt
  split
  · rename_i h0
    subst h0
    unfold inOf
    rw [getD_at ho]
  · obtain ⟨y, hy⟩ := at_some (l := l) (n := k - 1) (by have := lt_of_at0 ho; omega)
    rw [getD_at hy]
    exact (h.2.2 (k - 1) y o hy (by rw [show k - 1 + 1 = k by omega]; exact ho)).symm
where
  lt_of_at0 {α : Type} {l : List α} {j : Nat} {x : α} (hx : l[j]? = some x) : j < l.length := by
    rcases Nat.lt_or_ge j l.length with h | h
    · exact h
    · simp [List.getElem?_eq_none h] at hx
theorem outAt_succ {l : List OpS} {k : Nat} {o : OpS} (ho : l[k]? = some o) : outAt l (k + 1) = o.o := by
  unfold outAt
  rw [if_neg (by omega), show k + 1 - 1 = k by omega, getD_at ho]

end Go.Sx
