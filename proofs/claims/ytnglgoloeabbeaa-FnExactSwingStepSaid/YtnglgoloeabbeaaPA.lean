/-
  Plain words for what trees compute: numbers, vectors, rows, operations, gradients as data, and what an expression over them is.
-/
import Derived.Test.YtnglgoloeabbeaaMZ
namespace Go.Sx
open Go
set_option linter.unusedSimpArgs false
set_option linter.unusedVariables false

theorem w64 {n : Int} (h1 : -9223372036854775808 ≤ n) (h2 : n ≤ 9223372036854775807) : IntKind.wrap .i64 n = n := by
  simp only [IntKind.wrap, IntKind.bits, IntKind.signed]
  simp
  try split
  all_goals omega

/-- The value of this number. -/
def nth : List D → Nat → D
  | [], _ => default
  | a :: _, 0 => a
  | _ :: l, n + 1 => nth l n
theorem nth_eq : ∀ {l : List D} {n : Nat}, l.getD n default = nth l n
  | [], n => by simp [nth]
  | a :: l, 0 => by simp [nth]
  | a :: l, n + 1 => by rw [nth, ← nth_eq]; simp
@[simp] theorem nth_zero {a : D} {l : List D} : nth (a :: l) 0 = a := id rfl
@[simp] theorem nth_succ {a : D} {l : List D} {n : Nat} : nth (a :: l) (n + 1) = nth l n := id rfl
/-- A cell of an element. -/
def cel (a : D) (i : Int) (j : Nat) : D := (a.l.getD i.toNat []).getD j default

section
variable {Γ : Nat → List D → List D} {pre : Nat → List D → Prop} {Q : List D → Prop} {H : List (List D → Prop)} {ρ : List D} {a b c d : E} {k : IntKind}

@[simp] theorem den_var {i : Nat} : den Γ ρ (.var i) = nth ρ i := nth_eq
@[simp] theorem den_int {i : Int} : den Γ ρ (.int i) = .int i := id rfl
@[simp] theorem den_bool {i : Bool} : den Γ ρ (.bool i) = .bool i := id rfl
@[simp] theorem den_str' {l : List UInt8} : den Γ ρ (.str l) = .str l := id rfl
@[simp] theorem den_nil : den Γ ρ .nil = .sl [] := id rfl
@[simp] theorem denL_nil : denL Γ ρ [] = [] := id rfl
@[simp] theorem denL_cons {l : List E} : denL Γ ρ (a :: l) = den Γ ρ a :: denL Γ ρ l := id rfl
@[simp] theorem den_add' : den Γ ρ (.app (.add k) [a, b]) = .int (k.wrap ((den Γ ρ a).i + (den Γ ρ b).i)) := id rfl
@[simp] theorem den_sub' : den Γ ρ (.app (.sub k) [a, b]) = .int (k.wrap ((den Γ ρ a).i - (den Γ ρ b).i)) := id rfl
@[simp] theorem den_mul' : den Γ ρ (.app (.mul k) [a, b]) = .int (k.wrap ((den Γ ρ a).i * (den Γ ρ b).i)) := id rfl
@[simp] theorem den_quo' : den Γ ρ (.app (.quo k) [a, b]) = .int (k.wrap ((den Γ ρ a).i.tdiv (den Γ ρ b).i)) := id rfl
@[simp] theorem den_rem' : den Γ ρ (.app .rem [a, b]) = .int ((den Γ ρ a).i.tmod (den Γ ρ b).i) := id rfl
@[simp] theorem den_lt' : den Γ ρ (.app .lt [a, b]) = .bool (decide ((den Γ ρ a).i < (den Γ ρ b).i)) := id rfl
@[simp] theorem den_le' : den Γ ρ (.app .le [a, b]) = .bool (decide ((den Γ ρ a).i ≤ (den Γ ρ b).i)) := id rfl
@[simp] theorem den_eqi' : den Γ ρ (.app .eqi [a, b]) = .bool ((den Γ ρ a).i == (den Γ ρ b).i) := id rfl
@[simp] theorem den_eqs' : den Γ ρ (.app .eqs [a, b]) = .bool ((den Γ ρ a).s == (den Γ ρ b).s) := id rfl
@[simp] theorem den_eqb' : den Γ ρ (.app .eqb [a, b]) = .bool ((den Γ ρ a).b == (den Γ ρ b).b) := id rfl
@[simp] theorem den_not' : den Γ ρ (.app .not [a]) = .bool (!(den Γ ρ a).b) := id rfl
@[simp] theorem den_and' : den Γ ρ (.app .and [a, b]) = .bool ((den Γ ρ a).b && (den Γ ρ b).b) := id rfl
@[simp] theorem den_or' : den Γ ρ (.app .or [a, b]) = .bool ((den Γ ρ a).b || (den Γ ρ b).b) := id rfl
@[simp] theorem den_ite' : den Γ ρ (.app .ite [a, b, c]) = if (den Γ ρ a).b = true then den Γ ρ b else den Γ ρ c := id rfl
@[simp] theorem den_len' : den Γ ρ (.app .len [a]) = .int (den Γ ρ a).l.length := id rfl
@[simp] theorem den_slen' : den Γ ρ (.app .slen [a]) = .int (den Γ ρ a).s.length := id rfl
@[simp] theorem den_cell' {j : Nat} : den Γ ρ (.app (.cell j) [a, b]) = cel (den Γ ρ a) (den Γ ρ b).i j := id rfl
@[simp] theorem den_cat' : den Γ ρ (.app .cat [a, b]) = .sl ((den Γ ρ a).l ++ (den Γ ρ b).l) := id rfl
@[simp] theorem den_slice' : den Γ ρ (.app .slice [a, b, c]) = .sl (((den Γ ρ a).l.take (den Γ ρ c).i.toNat).drop (den Γ ρ b).i.toNat) := id rfl
@[simp] theorem den_set' {j : Nat} : den Γ ρ (.app (.set j) [a, b, c]) = .sl ((den Γ ρ a).l.modify (den Γ ρ b).i.toNat fun x => x.set j (den Γ ρ c)) := id rfl
@[simp] theorem den_setl' {j : Nat} : den Γ ρ (.app (.setl j) [a, b, c]) = .sl ((den Γ ρ a).l.modify (den Γ ρ b).i.toNat fun x => x.set j (den Γ ρ c)) := id rfl
@[simp] theorem den_setd' {j m : Nat} : den Γ ρ (.app (.setd j m) [a, b, c, d]) = .sl ((den Γ ρ a).l.modify (den Γ ρ b).i.toNat fun x => x.modify j fun y => .sl (y.l.modify (den Γ ρ c).i.toNat fun z => z.set m (den Γ ρ d))) := id rfl
@[simp] theorem den_mk' {m : Nat} {l : List E} : den Γ ρ (.app (.mk m) l) = .sl (chunks m ((denL Γ ρ l).length / m) (denL Γ ρ l)) := id rfl
@[simp] theorem den_rep' {l : List E} : den Γ ρ (.app .rep (a :: l)) = .sl (List.replicate (den Γ ρ a).i.toNat (denL Γ ρ l)) := id rfl
@[simp] theorem den_mn' : den Γ ρ (.app .mn [a, b]) = .int (if (den Γ ρ b).i < (den Γ ρ a).i then (den Γ ρ b).i else (den Γ ρ a).i) := id rfl
@[simp] theorem den_mx' : den Γ ρ (.app .mx [a, b]) = .int (if (den Γ ρ b).i > (den Γ ρ a).i then (den Γ ρ b).i else (den Γ ρ a).i) := id rfl
@[simp] theorem den_shr' : den Γ ρ (.app (.shr k) [a, b]) = .int ((den Γ ρ a).i.fdiv (2 ^ (min (den Γ ρ b).i.toNat k.bits))) := id rfl
@[simp] theorem den_band' : den Γ ρ (.app (.band k) [a, b]) = .int (k.wrap (BitVec.ofInt k.bits (den Γ ρ a).i &&& BitVec.ofInt k.bits (den Γ ρ b).i).toNat) := id rfl
@[simp] theorem den_bxor' : den Γ ρ (.app (.bxor k) [a, b]) = .int (k.wrap (BitVec.ofInt k.bits (den Γ ρ a).i ^^^ BitVec.ofInt k.bits (den Γ ρ b).i).toNat) := id rfl
@[simp] theorem den_conv' : den Γ ρ (.app (.conv k) [a]) = .int (k.wrap (den Γ ρ a).i) := id rfl
@[simp] theorem den_call' {f r : Nat} {l : List E} : den Γ ρ (.app (.call f r) l) = nth (Γ f (denL Γ ρ l)) r := nth_eq

@[simp ↓] theorem c_bool {x : Bool} : ((den Γ ρ (.bool x)).b = true) = (x = true) := id rfl
@[simp ↓] theorem c_lt : ((den Γ ρ (.app .lt [a, b])).b = true) = ((den Γ ρ a).i < (den Γ ρ b).i) := by simp only [den_lt', D.b_bool, decide_eq_true_eq]
@[simp ↓] theorem c_le : ((den Γ ρ (.app .le [a, b])).b = true) = ((den Γ ρ a).i ≤ (den Γ ρ b).i) := by simp only [den_le', D.b_bool, decide_eq_true_eq]
@[simp ↓] theorem c_eqi : ((den Γ ρ (.app .eqi [a, b])).b = true) = ((den Γ ρ a).i = (den Γ ρ b).i) := by simp only [den_eqi', D.b_bool, beq_iff_eq]
@[simp ↓] theorem c_not : ((den Γ ρ (.app .not [a])).b = true) = (¬ (den Γ ρ a).b = true) := by simp only [den_not', D.b_bool, Bool.not_eq_true', Bool.not_eq_true]
@[simp ↓] theorem c_and : ((den Γ ρ (.app .and [a, b])).b = true) = ((den Γ ρ a).b = true ∧ (den Γ ρ b).b = true) := by simp only [den_and', D.b_bool, Bool.and_eq_true]
@[simp ↓] theorem c_or : ((den Γ ρ (.app .or [a, b])).b = true) = ((den Γ ρ a).b = true ∨ (den Γ ρ b).b = true) := by simp only [den_or', D.b_bool, Bool.or_eq_true]
@[simp ↓] theorem c_ite : ((den Γ ρ (.app .ite [a, b, c])).b = true) = (if (den Γ ρ a).b = true then (den Γ ρ b).b = true else (den Γ ρ c).b = true) := by
  rw [den_ite']; split <;> rfl

@[simp] theorem wp_no {w : Nat} : wpT Γ pre Q H ρ (.no w) ↔ False := ⟨id, id⟩
@[simp] theorem wp_ret {l : List E} : wpT Γ pre Q H ρ (.ret l) ↔ Q (denL Γ ρ l) := ⟨id, id⟩
@[simp] theorem wp_ite {x y : T} : wpT Γ pre Q H ρ (.ite a x y) ↔ if (den Γ ρ a).b = true then wpT Γ pre Q H ρ x else wpT Γ pre Q H ρ y := ⟨id, id⟩
@[simp] theorem wp_need {x : T} : wpT Γ pre Q H ρ (.need a x) ↔ (den Γ ρ a).b = true ∧ wpT Γ pre Q H ρ x := ⟨id, id⟩
@[simp] theorem wp_ask {f : Nat} {l : List E} {x : T} : wpT Γ pre Q H ρ (.ask a f l x) ↔ ((den Γ ρ a).b = true → pre f (denL Γ ρ l)) ∧ wpT Γ pre Q H ρ x := ⟨id, id⟩
@[simp] theorem wp_again {h : List D → Prop} {l : List E} : wpT Γ pre Q (h :: H) ρ (.again 0 l) ↔ h (denL Γ ρ l) := ⟨id, id⟩
@[simp] theorem wp_again1 {h h1 : List D → Prop} {l : List E} : wpT Γ pre Q (h1 :: h :: H) ρ (.again 1 l) ↔ h (denL Γ ρ l) := ⟨id, id⟩

/-- A loop, by what holds at each round, with a number that falls. -/
theorem wp_loop {nv : Nat} {init : List E} {body : T} (I : Nat → List D → Prop) (hnv : nv = ρ.length) (k : Nat) (h0 : I k (denL Γ ρ init)) (h : ∀ k vs, I k vs → wpT Γ pre Q ((fun vs' => ∃ k', k' < k ∧ I k' vs') :: H) (ρ ++ vs) body) : wpT Γ pre Q H ρ (.loop nv init body) :=
  ⟨hnv, I, ⟨k, h0⟩, h⟩
end

theorem band255 (a : Nat) : 0 ≤ IntKind.i64.wrap ((a &&& 255 % 2 ^ IntKind.i64.bits : Nat) : Int) ∧ IntKind.i64.wrap ((a &&& 255 % 2 ^ IntKind.i64.bits : Nat) : Int) ≤ 255 := by
  have h : a &&& 255 % 2 ^ IntKind.i64.bits ≤ 255 := Nat.le_trans Nat.and_le_right (by decide)
  rw [w64 (by omega) (by omega)]
  omega

theorem band_255 (x : Int) : ∃ m : Int, IntKind.wrap .i64 ((BitVec.ofInt 64 x &&& BitVec.ofInt 64 255).toNat : Int) = m ∧ 0 ≤ m ∧ m ≤ 255 := by
  refine ⟨_, rfl, ?_⟩
  have h : (BitVec.ofInt 64 x &&& BitVec.ofInt 64 255).toNat ≤ 255 := by
    rw [BitVec.toNat_and]
    exact Nat.le_trans Nat.and_le_right (by decide)
  rw [w64 (by omega) (by omega)]
  omega

/-! ### Data -/

def vI (l : List Int) : D := .sl (l.map fun x => [.int x])
def vR (l : List (List Int)) : D := .sl (l.map fun r => [vI r])
structure OpS where
  k : Int
  i : Int
  o : Int
  p : List Int
  deriving Inhabited, DecidableEq
def vO (l : List OpS) : D := .sl (l.map fun o => [.int o.k, .int o.i, .int o.o, vI o.p])
def vP (l : List (List Int × List Int)) : D := .sl (l.map fun p => [vI p.1, vI p.2])
structure GrS where
  rows : List (List Int)
  loss : Int
  sat : Bool
  deriving Inhabited, DecidableEq
def vG (l : List GrS) : D := .sl (l.map fun g => [vR g.rows, .int g.loss, .bool g.sat])

theorem D.default_eq : (default : D) = .int 0 := rfl
@[simp] theorem vI_len {l : List Int} : (vI l).l.length = l.length := by simp [vI]
@[simp] theorem vR_len {l : List (List Int)} : (vR l).l.length = l.length := by simp [vR]
@[simp] theorem vO_len {l : List OpS} : (vO l).l.length = l.length := by simp [vO]
@[simp] theorem vP_len {l : List (List Int × List Int)} : (vP l).l.length = l.length := by simp [vP]
@[simp] theorem vG_len {l : List GrS} : (vG l).l.length = l.length := by simp [vG]

@[simp] theorem cel_vI {l : List Int} {i : Int} : cel (vI l) i 0 = .int (l.getD i.toNat 0) := by
  simp only [cel, vI, D.l_sl, List.getD_eq_getElem?_getD, List.getElem?_map]
  cases l[i.toNat]? <;> rfl
theorem cel_map {α : Type} {l : List α} {f : α → List D} {j : Nat} {x : α} (h : l[j]? = some x) (m : Nat) : cel (.sl (l.map f)) (j : Int) m = nth (f x) m := by
  simp only [cel, D.l_sl, List.getD_eq_getElem?_getD, List.getElem?_map, Int.toNat_natCast, h, Option.map_some, Option.getD_some]
  rw [← List.getD_eq_getElem?_getD, nth_eq]
theorem cel_vR {l : List (List Int)} {j : Nat} {x : List Int} (h : l[j]? = some x) : cel (vR l) (j : Int) 0 = vI x := cel_map h 0
theorem cel_vO0 {l : List OpS} {j : Nat} {x : OpS} (h : l[j]? = some x) : cel (vO l) (j : Int) 0 = .int x.k := cel_map h 0
theorem cel_vO1 {l : List OpS} {j : Nat} {x : OpS} (h : l[j]? = some x) : cel (vO l) (j : Int) 1 = .int x.i := cel_map h 1
theorem cel_vO2 {l : List OpS} {j : Nat} {x : OpS} (h : l[j]? = some x) : cel (vO l) (j : Int) 2 = .int x.o := cel_map h 2
theorem cel_vO3 {l : List OpS} {j : Nat} {x : OpS} (h : l[j]? = some x) : cel (vO l) (j : Int) 3 = vI x.p := cel_map h 3
theorem cel_vP0 {l : List (List Int × List Int)} {j : Nat} {x : List Int × List Int} (h : l[j]? = some x) : cel (vP l) (j : Int) 0 = vI x.1 := cel_map h 0
theorem cel_vP1 {l : List (List Int × List Int)} {j : Nat} {x : List Int × List Int} (h : l[j]? = some x) : cel (vP l) (j : Int) 1 = vI x.2 := cel_map h 1
theorem cel_vG0 {l : List GrS} {j : Nat} {x : GrS} (h : l[j]? = some x) : cel (vG l) (j : Int) 0 = vR x.rows := cel_map h 0
theorem cel_vG1 {l : List GrS} {j : Nat} {x : GrS} (h : l[j]? = some x) : cel (vG l) (j : Int) 1 = .int x.loss := cel_map h 1
theorem cel_vG2 {l : List GrS} {j : Nat} {x : GrS} (h : l[j]? = some x) : cel (vG l) (j : Int) 2 = .bool x.sat := cel_map h 2

@[simp] theorem ite_bool {p : Prop} [Decidable p] {a b : Bool} : (if p then D.bool a else D.bool b) = D.bool (if p then a else b) := by split <;> rfl
@[simp] theorem ite_int {p : Prop} [Decidable p] {a b : Int} : (if p then D.int a else D.int b) = D.int (if p then a else b) := by split <;> rfl
theorem at_some {α : Type} {l : List α} {n : Nat} (h : n < l.length) : ∃ x, l[n]? = some x := ⟨l[n], List.getElem?_eq_getElem h⟩
theorem wS {i : Nat} (h : i ≤ 1000000000000) : IntKind.wrap .i64 ((i : Int) + 1) = ((i + 1 : Nat) : Int) := by rw [w64 (by omega) (by omega)]; simp
def Sm {α : Type} (l : List α) : Prop := l.length ≤ 1048576
/-- Short enough for an int. -/
def Lo {α : Type} (l : List α) : Prop := l.length < 9223372036854775808

theorem vI_push (l : List Int) (x : Int) : D.sl ((vI l).l ++ [[.int x]]) = vI (l ++ [x]) := by simp [vI]
theorem vR_push (l : List (List Int)) (x : List Int) : D.sl ((vR l).l ++ [[vI x]]) = vR (l ++ [x]) := by simp [vR]
theorem vO_push (l : List OpS) (k i o : Int) (p : List Int) : D.sl ((vO l).l ++ [[.int k, .int i, .int o, vI p]]) = vO (l ++ [⟨k, i, o, p⟩]) := by simp [vO]
theorem vP_push (l : List (List Int × List Int)) (x y : List Int) : D.sl ((vP l).l ++ [[vI x, vI y]]) = vP (l ++ [(x, y)]) := by simp [vP]
theorem vG_push (l : List GrS) (r : List (List Int)) (x : Int) (s : Bool) : D.sl ((vG l).l ++ [[vR r, .int x, .bool s]]) = vG (l ++ [⟨r, x, s⟩]) := by simp [vG]

/-! ### What is drawn -/

/-- A cursor over the code. -/
def Cur (cd : List (List D)) (i : Int) : Prop := 0 ≤ i ∧ i ≤ cd.length ∧ cd.length ≤ 1048576

end Go.Sx
