/-
  The machine, part M: what a call asks of what is handed over, and what it gives.
-/
import Derived.Test.YtnglgoloeabbeaaML
namespace Go.Sx
open Go Go.RowKit
set_option linter.unusedSimpArgs false
set_option linter.unusedVariables false

/-- A slice's own block. -/
def topOf : Value → List Nat
  | .slice (some a) _ _ => [a.block]
  | _ => []

/-! ### What goes in -/

/-- The cells of a value: what is read, what may be written, what is handed over. -/
inductive CellsIn (w : World) : List (Ty × Md) → List Value → List D → List Nat → List Nat → List Nat → Prop
  | nil : CellsIn w [] [] [] [] [] []
  | ro {t : Ty} {m : Md} {ts : List (Ty × Md)} {v : Value} {vs : List Value} {d : D} {ds : List D} {f ro M A : List Nat} :
      isSl t = false ∨ m = .ro → Rep w false t v d f → CellsIn w ts vs ds ro M A → CellsIn w ((t, m) :: ts) (v :: vs) (d :: ds) (f ++ ro) M A
  | wr {t : List Ty} {ts : List (Ty × Md)} {v : Value} {vs : List Value} {d : D} {ds : List D} {f ro M A : List Nat} :
      Rep w true (.sl t) v d f → CellsIn w ts vs ds ro M A → CellsIn w ((.sl t, .wr) :: ts) (v :: vs) (d :: ds) ro (f ++ M) (f ++ A)
  | give {t : List Ty} {ts : List (Ty × Md)} {v : Value} {vs : List Value} {d : D} {ds : List D} {f ro M A : List Nat} :
      noSl t = true ∨ v = .slice none 0 0 → Rep w true (.sl t) v d f → CellsIn w ts vs ds ro M A → CellsIn w ((.sl t, .give) :: ts) (v :: vs) (d :: ds) ro (f ++ M) (f ++ A)

inductive BoxIn (w : World) : List (Ty × Rm) → List Value → List D → List Nat → List Nat → List Nat → Prop
  | nil : BoxIn w [] [] [] [] [] []
  | ro {t : Ty} {m : Rm} {ts : List (Ty × Rm)} {v : Value} {vs : List Value} {d : D} {ds : List D} {f ro M A : List Nat} :
      isSl t = false ∨ m ≠ .own → Rep w false t v d f → BoxIn w ts vs ds ro M A → BoxIn w ((t, m) :: ts) (v :: vs) (d :: ds) (f ++ ro) M A
  | own {t : List Ty} {ts : List (Ty × Rm)} {v : Value} {vs : List Value} {d : D} {ds : List D} {f ro M A : List Nat} :
      Rep w true (.sl t) v d f → BoxIn w ts vs ds ro M A → BoxIn w ((.sl t, .own) :: ts) (v :: vs) (d :: ds) ro (topOf v ++ M) (f ++ A)

def argVal (agg : Bool) (cs : List Value) (v : Value) : Prop := if agg then v = .agg cs.toArray else cs = [v]

inductive ArgsIn (w : World) : List PK → List Value → List D → List Nat → List Nat → List Nat → Prop
  | nil : ArgsIn w [] [] [] [] [] []
  | val {ts : List (Ty × Md)} {agg : Bool} {ps : List PK} {v : Value} {vs cs : List Value} {ds ds' : List D} {r r' M M' A A' : List Nat} :
      argVal agg cs v → CellsIn w ts cs ds r M A → ArgsIn w ps vs ds' r' M' A' → ArgsIn w (.val ts agg :: ps) (v :: vs) (ds ++ ds') (r ++ r') (M ++ M') (A ++ A')
  | box {ts : List (Ty × Rm)} {ps : List PK} {b : Nat} {T : TypeId} {vs cs : List Value} {ds ds' : List D} {r r' M M' A A' : List Nat} :
      w.heap[b]? = some (.cells cs.toArray T (0, 0)) → BoxIn w ts cs ds r M A → ArgsIn w ps vs ds' r' M' A' →
      ArgsIn w (.box ts :: ps) (.pointer (some ⟨b, 0, none⟩) :: vs) (ds ++ ds') (r ++ r') (b :: (M ++ M')) (b :: (A ++ A'))

/-! ### What comes back -/

/-- A slice in a block of its own, whose elements' slices are only read. -/
def TopRep (w : World) (ts : List Ty) (v : Value) (d : D) (f : List Nat) : Prop :=
  (v = .slice none 0 0 ∧ d = .sl [] ∧ f = []) ∨
  ∃ b o len cap vs l, v = .slice (some ⟨b, o, none⟩) len cap ∧ d = .sl l ∧ Holds w b o vs ∧ l.length = len ∧ len ≤ cap ∧ cap < 9223372036854775808 ∧ Opn w b (o + cap * ts.length) ∧ b < w.heap.size ∧ RepL w false ts vs l f

/-- Cells: the tops of what is owned, all that is owned, what is only read. -/
inductive CellsOut (w : World) : List (Ty × Rm) → List Value → List D → List Nat → List Nat → List Nat → Prop
  | nil : CellsOut w [] [] [] [] [] []
  | ro {t : Ty} {m : Rm} {ts : List (Ty × Rm)} {v : Value} {vs : List Value} {d : D} {ds : List D} {f H O R : List Nat} :
      isSl t = false ∨ m = .ro → Rep w false t v d f → CellsOut w ts vs ds H O R → CellsOut w ((t, m) :: ts) (v :: vs) (d :: ds) H O (f ++ R)
  | own {t : List Ty} {ts : List (Ty × Rm)} {v : Value} {vs : List Value} {d : D} {ds : List D} {f H O R : List Nat} :
      Rep w true (.sl t) v d f → CellsOut w ts vs ds H O R → CellsOut w ((.sl t, .own) :: ts) (v :: vs) (d :: ds) (topOf v ++ H) (f ++ O) R
  | top {t : List Ty} {ts : List (Ty × Rm)} {v : Value} {vs : List Value} {d : D} {ds : List D} {f H O R : List Nat} :
      TopRep w t v d f → CellsOut w ts vs ds H O R → CellsOut w ((.sl t, .top) :: ts) (v :: vs) (d :: ds) (topOf v ++ H) (topOf v ++ O) (f ++ R)
  | kept {t : List Ty} {ts : List (Ty × Rm)} {v : Value} {vs : List Value} {d : D} {ds : List D} {H O R : List Nat} :
      CellsOut w ts vs ds H O R → CellsOut w ((.sl t, .kept) :: ts) (v :: vs) (d :: ds) H O R

inductive ResOut (w : World) : List RK → List Value → List D → List Nat → List Nat → List Nat → Prop
  | nil : ResOut w [] [] [] [] [] []
  | val {ts : List (Ty × Rm)} {sh : Shape} {ks : List RK} {v : Value} {vs cs : List Value} {ds ds' : List D} {H H' O O' R R' : List Nat} :
      sh ≠ .ptr → argVal (decide (sh = .agg)) cs v → CellsOut w ts cs ds H O R → ResOut w ks vs ds' H' O' R' → ResOut w (⟨ts, sh⟩ :: ks) (v :: vs) (ds ++ ds') (H ++ H') (O ++ O') (R ++ R')
  | ptr {ts : List (Ty × Rm)} {ks : List RK} {b : Nat} {T : TypeId} {vs cs : List Value} {ds ds' : List D} {H H' O O' R R' : List Nat} :
      w.heap[b]? = some (.cells cs.toArray T (0, 0)) → CellsOut w ts cs ds H O R → ResOut w ks vs ds' H' O' R' →
      ResOut w (⟨ts, .ptr⟩ :: ks) (.pointer (some ⟨b, 0, none⟩) :: vs) (ds ++ ds') (b :: (H ++ H')) (b :: (O ++ O')) (R ++ R')

/-- The cells that were handed over to be written into, as they are now. -/
inductive CellsBack (w : World) : List (Ty × Md) → List Value → List D → List Nat → List Nat → Prop
  | nil : CellsBack w [] [] [] [] []
  | other {t : Ty} {m : Md} {ts : List (Ty × Md)} {v : Value} {vs : List Value} {ds : List D} {H O : List Nat} :
      isSl t = false ∨ m ≠ .wr → CellsBack w ts vs ds H O → CellsBack w ((t, m) :: ts) (v :: vs) ds H O
  | wr {t : List Ty} {ts : List (Ty × Md)} {v : Value} {vs : List Value} {d : D} {ds : List D} {f H O : List Nat} :
      Rep w true (.sl t) v d f → CellsBack w ts vs ds H O → CellsBack w ((.sl t, .wr) :: ts) (v :: vs) (d :: ds) (topOf v ++ H) (f ++ O)

inductive BackOut (w : World) : List PK → List Value → List D → List Nat → List Nat → List Nat → Prop
  | nil : BackOut w [] [] [] [] [] []
  | val {ts : List (Ty × Md)} {agg : Bool} {ps : List PK} {v : Value} {vs cs : List Value} {ds ds' : List D} {H H' O O' R' : List Nat} :
      argVal agg cs v → CellsBack w ts cs ds H O → BackOut w ps vs ds' H' O' R' → BackOut w (.val ts agg :: ps) (v :: vs) (ds ++ ds') (H ++ H') (O ++ O') R'
  | box {ts : List (Ty × Rm)} {ps : List PK} {b : Nat} {T : TypeId} {vs cs : List Value} {ds ds' : List D} {H H' O O' R R' : List Nat} :
      w.heap[b]? = some (.cells cs.toArray T (0, 0)) → CellsOut w ts cs ds H O R → BackOut w ps vs ds' H' O' R' →
      BackOut w (.box ts :: ps) (.pointer (some ⟨b, 0, none⟩) :: vs) (ds ++ ds') (b :: (H ++ H')) (b :: (O ++ O')) (R ++ R')

/-- What a call returns: one value, or several as one. -/
def retVal (vs : List Value) (v : Value) : Prop := match vs with
  | [x] => v = x
  | vs => v = .tuple vs.toArray

/-- What stays as it was. -/
structure Kept (w w' : World) (M : List Nat) : Prop where
  os : w'.os = w.os
  tape : w'.tape = w.tape
  output : w'.output = w.output
  size : w.heap.size ≤ w'.heap.size
  block : ∀ k, k < w.heap.size → k ∉ M → w'.heap[k]? = w.heap[k]?

/-- The cells of boxes that are kept hold what they held. -/
def KeptCells (w w' : World) (b : Nat) (ts : List (Ty × Rm)) : Prop := ∀ j t, ts[j]? = some (.sl t, .kept) → w'.cell? ⟨b, j, none⟩ = w.cell? ⟨b, j, none⟩
inductive KeptAll (w w' : World) : List PK → List Value → Prop
  | nil : KeptAll w w' [] []
  | val {ts : List (Ty × Md)} {agg : Bool} {ps : List PK} {v : Value} {vs : List Value} : KeptAll w w' ps vs → KeptAll w w' (.val ts agg :: ps) (v :: vs)
  | box {ts : List (Ty × Rm)} {ps : List PK} {b : Nat} {vs : List Value} : KeptCells w w' b ts → KeptAll w w' ps vs → KeptAll w w' (.box ts :: ps) (.pointer (some ⟨b, 0, none⟩) :: vs)

/-- What a call has come to. -/
structure Came (sg : Sig) (w : World) (args : List Value) (M A : List Nat) (X : Nat → Prop) (out : List D) (v : Value) (w' : World) : Prop where
  kept : Kept w w' M
  cells : KeptAll w w' sg.params args
  res : ∃ vs d1 d2 H1 O1 R1 H2 O2 R2, retVal vs v ∧ out = d1 ++ d2 ∧ ResOut w' sg.res vs d1 H1 O1 R1 ∧ BackOut w' sg.params args d2 H2 O2 R2 ∧ (O1 ++ O2).Nodup ∧
    (∀ k ∈ O1 ++ O2, w.heap.size ≤ k ∨ k ∈ A) ∧ (∀ k ∈ H1 ++ H2, w.heap.size ≤ k ∨ k ∈ M) ∧ (∀ k ∈ R1 ++ R2, k ∉ H1 ++ H2 ∧ ¬ X k)

/-- A function's summary. -/
def SummOk (P : Program) (G : List Nat) (env : World → Prop) (f : Nat) (sg : Sig) (Γ : List D → List D) (pre : List D → Prop) : Prop :=
  (∃ fn, P.funcs[f]? = some fn ∧ (fn.name == "runtime.NumGoroutine") = false ∧ fn.body.isNone = false) ∧ ∀ (w : World) (args : List Value) (ds : List D) (ro M A : List Nat) (X : Nat → Prop), ArgsIn w sg.params args ds ro M A → A.Nodup → (∀ k ∈ ro, k ∉ M ∧ ¬ X k) → (∀ k ∈ A, ¬ X k) → (∀ k, X k → k < w.heap.size) → (∀ k ∈ G, X k) →
    env w → pre ds → Calls P f args.toArray w fun e w' => ∃ v, e = .returned v ∧ Came sg w args M A X (Γ ds) v w'

end Go.Sx
