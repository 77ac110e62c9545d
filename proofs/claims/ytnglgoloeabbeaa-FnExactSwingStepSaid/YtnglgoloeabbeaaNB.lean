/-
  The machine, last part, B: what data of a type are, where a value reads as them: vectors, rows, operations.
-/
import Derived.Test.YtnglgoloeabbeaaNA
import Derived.Test.YtnglgoloeabbeaaPA
namespace Go.Sx
open Go
set_option linter.unusedSimpArgs false
set_option linter.unusedVariables false

theorem RepC.one {w : World} {ow : Bool} {t : Ty} {vs : List Value} {ds : List D} {f : List Nat} (h : RepC w ow [t] vs ds f) : ∃ v d f', vs = [v] ∧ ds = [d] ∧ Rep w ow t v d f' := by
  cases h with
  | cons h1 h2 =>
    cases h2
    exact ⟨_, _, _, rfl, rfl, h1⟩

theorem Rep.asInt {w : World} {ow : Bool} {k : IntKind} {v : Value} {d : D} {f : List Nat} (h : Rep w ow (.int k) v d f) : ∃ n, d = .int n ∧ inR k n = true := by
  cases h with
  | int h => exact ⟨_, rfl, h⟩
theorem Rep.asBool {w : World} {ow : Bool} {v : Value} {d : D} {f : List Nat} (h : Rep w ow .bool v d f) : ∃ b, d = .bool b := by
  cases h
  exact ⟨_, rfl⟩

theorem RepL.ints {w : World} {ow : Bool} {k : IntKind} : ∀ {vs : List Value} {l : List (List D)} {f : List Nat}, RepL w ow [.int k] vs l f → ∃ ns : List Int, l = ns.map fun n => [.int n]
  | _, _, _, .nil => ⟨[], rfl⟩
  | _, _, _, .cons h1 h2 => by
    obtain ⟨ns, rfl⟩ := RepL.ints h2
    obtain ⟨v, d, f, _, rfl, hr⟩ := h1.one
    obtain ⟨n, rfl, _⟩ := hr.asInt
    exact ⟨n :: ns, rfl⟩
theorem Rep.asInts {w : World} {ow : Bool} {k : IntKind} {v : Value} {d : D} {f : List Nat} (h : Rep w ow (.sl [.int k]) v d f) : ∃ ns : List Int, d = vI ns ∧ Lo ns := by
  cases h with
  | nil => exact ⟨[], rfl, by unfold Lo; simp⟩
  | emp => exact ⟨[], rfl, by unfold Lo; simp⟩
  | sl _ h1 h2 h3 _ _ h4 =>
    obtain ⟨ns, rfl⟩ := h4.ints
    exact ⟨ns, rfl, by unfold Lo; simp at h1; omega⟩
theorem RepL.rows {w : World} {ow : Bool} {k : IntKind} : ∀ {vs : List Value} {l : List (List D)} {f : List Nat}, RepL w ow [.sl [.int k]] vs l f → ∃ r : List (List Int), l = (r.map fun n => [vI n]) ∧ ∀ y ∈ r, Lo y
  | _, _, _, .nil => ⟨[], rfl, fun y hy => nomatch hy⟩
  | _, _, _, .cons h1 h2 => by
    obtain ⟨r, rfl, hr⟩ := RepL.rows h2
    obtain ⟨v, d, f, _, rfl, h3⟩ := h1.one
    obtain ⟨n, rfl, hn⟩ := h3.asInts
    exact ⟨n :: r, rfl, fun y hy => by
      cases hy with
      | head => exact hn
      | tail _ hy => exact hr y hy⟩
theorem Rep.asRows {w : World} {ow : Bool} {k : IntKind} {v : Value} {d : D} {f : List Nat} (h : Rep w ow (.sl [.sl [.int k]]) v d f) : ∃ r : List (List Int), d = vR r ∧ Lo r ∧ ∀ y ∈ r, Lo y := by
  cases h with
  | nil => exact ⟨[], rfl, by unfold Lo; simp, fun y hy => nomatch hy⟩
  | emp => exact ⟨[], rfl, by unfold Lo; simp, fun y hy => nomatch hy⟩
  | sl _ h1 h2 h3 _ _ h4 =>
    obtain ⟨r, rfl, hr⟩ := h4.rows
    exact ⟨r, rfl, by unfold Lo; simp at h1; omega, hr⟩
theorem RepL.ops {w : World} {ow : Bool} {k : IntKind} : ∀ {vs : List Value} {l : List (List D)} {f : List Nat}, RepL w ow [.int k, .int k, .int k, .sl [.int k]] vs l f → ∃ r : List OpS, l = (r.map fun o => [.int o.k, .int o.i, .int o.o, vI o.p]) ∧ ∀ o ∈ r, Lo o.p
  | _, _, _, .nil => ⟨[], rfl, fun y hy => nomatch hy⟩
  | _, _, _, .cons h1 h2 => by
    obtain ⟨r, rfl, hr⟩ := RepL.ops h2
    cases h1 with
    | cons a1 h1 =>
      cases h1 with
      | cons a2 h1 =>
        cases h1 with
        | cons a3 h1 =>
          cases h1 with
          | cons a4 h1 =>
            cases h1
            obtain ⟨n1, rfl, _⟩ := a1.asInt
            obtain ⟨n2, rfl, _⟩ := a2.asInt
            obtain ⟨n3, rfl, _⟩ := a3.asInt
            obtain ⟨p, rfl, hp⟩ := a4.asInts
            exact ⟨⟨n1, n2, n3, p⟩ :: r, rfl, fun y hy => by
              cases hy with
              | head => exact hp
              | tail _ hy => exact hr y hy⟩
theorem Rep.asOps {w : World} {ow : Bool} {k : IntKind} {v : Value} {d : D} {f : List Nat} (h : Rep w ow (.sl [.int k, .int k, .int k, .sl [.int k]]) v d f) : ∃ r : List OpS, d = vO r ∧ Lo r ∧ ∀ o ∈ r, Lo o.p := by
  cases h with
  | nil => exact ⟨[], rfl, by unfold Lo; simp, fun y hy => nomatch hy⟩
  | emp => exact ⟨[], rfl, by unfold Lo; simp, fun y hy => nomatch hy⟩
  | sl _ h1 h2 h3 _ _ h4 =>
    obtain ⟨r, rfl, hr⟩ := h4.ops
    exact ⟨r, rfl, by unfold Lo; simp at h1; omega, hr⟩

/-- What the cells of a value that is read alone are. -/
theorem CellsIn.step {w : World} {t : Ty} {ts : List (Ty × Md)} {cs : List Value} {dd : List D} {ro M A : List Nat} (h : CellsIn w ((t, .ro) :: ts) cs dd ro M A) : ∃ v vs d ds f ro', cs = v :: vs ∧ dd = d :: ds ∧ Rep w false t v d f ∧ CellsIn w ts vs ds ro' M A := by
  cases h with
  | ro _ h1 h2 => exact ⟨_, _, _, _, _, _, rfl, rfl, h1, h2⟩
theorem CellsIn.done {w : World} {cs : List Value} {dd : List D} {ro M A : List Nat} (h : CellsIn w [] cs dd ro M A) : dd = [] := by
  cases h
  rfl
theorem ArgsIn.step {w : World} {ts : List (Ty × Md)} {agg : Bool} {ps : List PK} {vs : List Value} {dd : List D} {ro M A : List Nat} (h : ArgsIn w (.val ts agg :: ps) vs dd ro M A) : ∃ cs vs' ds ds' r r' M1 M2 A1 A2, dd = ds ++ ds' ∧ CellsIn w ts cs ds r M1 A1 ∧ ArgsIn w ps vs' ds' r' M2 A2 := by
  cases h with
  | val _ h1 h2 => exact ⟨_, _, _, _, _, _, _, _, _, _, rfl, h1, h2⟩
theorem ArgsIn.done {w : World} {vs : List Value} {dd : List D} {ro M A : List Nat} (h : ArgsIn w [] vs dd ro M A) : dd = [] := by
  cases h
  rfl

end Go.Sx
