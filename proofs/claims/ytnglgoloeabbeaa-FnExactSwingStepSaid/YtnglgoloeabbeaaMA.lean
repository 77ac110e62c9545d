/-
  The machine, part A: what its words mean. A symbolic run of a function's code over closed data: types of cells, data, expressions, abstract values and blocks, and the run itself, which yields a tree of tests.
-/
import Derived.Orders
import Derived.Calls
namespace Go.Sx
open Go

/-- The type of one cell. -/
inductive Ty where
  | int (k : IntKind)
  | bool
  | str
  | err
  | sl (ts : List Ty)
  deriving Repr, Inhabited

mutual
def Ty.beq : Ty → Ty → Bool
  | .int a, .int b => decide (a = b)
  | .bool, .bool => true
  | .str, .str => true
  | .err, .err => true
  | .sl a, .sl b => Ty.beqL a b
  | _, _ => false
def Ty.beqL : List Ty → List Ty → Bool
  | [], [] => true
  | a :: as, b :: bs => a.beq b && Ty.beqL as bs
  | _, _ => false
end

/-- Data. A slice: its elements, each a list of cells. -/
inductive D where
  | int (n : Int)
  | bool (b : Bool)
  | str (l : List UInt8)
  | sl (l : List (List D))
  deriving Inhabited

def D.i : D → Int
  | .int n => n
  | _ => 0
def D.b : D → Bool
  | .bool b => b
  | _ => false
def D.s : D → List UInt8
  | .str l => l
  | _ => []
def D.l : D → List (List D)
  | .sl l => l
  | _ => []

/-- What is done to data. -/
inductive F where
  | add (k : IntKind) | sub (k : IntKind) | mul (k : IntKind) | quo (k : IntKind) | rem
  | shl (k : IntKind) | shr (k : IntKind) | band (k : IntKind) | bor (k : IntKind) | bxor (k : IntKind) | conv (k : IntKind)
  | lt | le | eqi | eqs | eqb | not | and | or | ite
  | len | slen | cell (j : Nat) | mk (n : Nat) | cat | slice | set (j : Nat) | setd (j m : Nat) | setl (j : Nat) | rep
  | scat | ssub | sbyte | sbytes | sofb
  | mn | mx
  | call (f r : Nat)
  deriving DecidableEq, Repr, Inhabited

inductive E where
  | var (i : Nat)
  | int (n : Int)
  | bool (b : Bool)
  | str (l : List UInt8)
  | nil
  | app (f : F) (args : List E)
  deriving Repr, Inhabited

mutual
def E.beq : E → E → Bool
  | .var a, .var b => a == b
  | .int a, .int b => a == b
  | .bool a, .bool b => a == b
  | .str a, .str b => a == b
  | .nil, .nil => true
  | .app f a, .app g b => decide (f = g) && E.beqL a b
  | _, _ => false
def E.beqL : List E → List E → Bool
  | [], [] => true
  | a :: as, b :: bs => a.beq b && E.beqL as bs
  | _, _ => false
end

def chunks (n : Nat) : Nat → List D → List (List D)
  | 0, _ => []
  | k + 1, l => l.take n :: chunks n k (l.drop n)

def evalF (Γ : Nat → List D → List D) : F → List D → D
  | .add k, [a, b] => .int (k.wrap (a.i + b.i))
  | .sub k, [a, b] => .int (k.wrap (a.i - b.i))
  | .mul k, [a, b] => .int (k.wrap (a.i * b.i))
  | .quo k, [a, b] => .int (k.wrap (a.i.tdiv b.i))
  | .rem, [a, b] => .int (a.i.tmod b.i)
  | .shl k, [a, b] => .int (k.wrap (a.i * 2 ^ (min b.i.toNat k.bits)))
  | .shr k, [a, b] => .int (a.i.fdiv (2 ^ (min b.i.toNat k.bits)))
  | .band k, [a, b] => .int (k.wrap (BitVec.ofInt k.bits a.i &&& BitVec.ofInt k.bits b.i).toNat)
  | .bor k, [a, b] => .int (k.wrap (BitVec.ofInt k.bits a.i ||| BitVec.ofInt k.bits b.i).toNat)
  | .bxor k, [a, b] => .int (k.wrap (BitVec.ofInt k.bits a.i ^^^ BitVec.ofInt k.bits b.i).toNat)
  | .conv k, [a] => .int (k.wrap a.i)
  | .lt, [a, b] => .bool (decide (a.i < b.i))
  | .le, [a, b] => .bool (decide (a.i ≤ b.i))
  | .eqi, [a, b] => .bool (a.i == b.i)
  | .eqs, [a, b] => .bool (a.s == b.s)
  | .eqb, [a, b] => .bool (a.b == b.b)
  | .not, [a] => .bool (!a.b)
  | .and, [a, b] => .bool (a.b && b.b)
  | .or, [a, b] => .bool (a.b || b.b)
  | .ite, [c, a, b] => if c.b then a else b
  | .len, [a] => .int a.l.length
  | .slen, [a] => .int a.s.length
  | .cell j, [a, i] => (a.l.getD i.i.toNat []).getD j default
  | .mk n, ds => .sl (chunks n (ds.length / n) ds)
  | .cat, [a, b] => .sl (a.l ++ b.l)
  | .slice, [a, lo, hi] => .sl ((a.l.take hi.i.toNat).drop lo.i.toNat)
  | .set j, [a, i, v] => .sl (a.l.modify i.i.toNat fun c => c.set j v)
  | .setd j m, [a, i, k, v] => .sl (a.l.modify i.i.toNat fun c => c.modify j fun d => .sl (d.l.modify k.i.toNat fun x => x.set m v))
  | .setl j, [a, i, v] => .sl (a.l.modify i.i.toNat fun c => c.set j v)
  | .rep, n :: cs => .sl (List.replicate n.i.toNat cs)
  | .scat, [a, b] => .str (a.s ++ b.s)
  | .ssub, [a, lo, hi] => .str ((a.s.take hi.i.toNat).drop lo.i.toNat)
  | .sbyte, [a, i] => .int (a.s.getD i.i.toNat 0).toNat
  | .sbytes, [a] => .sl (a.s.map fun x => [.int x.toNat])
  | .sofb, [a] => .str (a.l.map fun c => UInt8.ofNat (c.getD 0 default).i.toNat)
  | .mn, [a, b] => .int (if b.i < a.i then b.i else a.i)
  | .mx, [a, b] => .int (if b.i > a.i then b.i else a.i)
  | .call f r, ds => (Γ f ds).getD r default
  | _, _ => default

mutual
def den (Γ : Nat → List D → List D) (ρ : List D) : E → D
  | .var i => ρ.getD i default
  | .int n => .int n
  | .bool b => .bool b
  | .str l => .str l
  | .nil => .sl []
  | .app f args => evalF Γ f (denL Γ ρ args)
def denL (Γ : Nat → List D → List D) (ρ : List D) : List E → List D
  | [] => []
  | e :: es => den Γ ρ e :: denL Γ ρ es
end

/-- The tree of tests that a symbolic run yields. -/
inductive T where
  | no (why : Nat)
  | ret (es : List E)
  | ite (c : E) (a b : T)
  | need (c : E) (t : T)
  | ask (g : E) (f : Nat) (args : List E) (t : T)
  | loop (nv : Nat) (init : List E) (body : T)
  | again (lvl : Nat) (es : List E)
  deriving Repr, Inhabited

/-- What it comes to, within so many rounds: 'Q' of what is returned. -/
def ev (Γ : Nat → List D → List D) (pre : Nat → List D → Prop) (n : Nat) (s : List (Nat × T)) (ρ : List D) (t : T) (Q : List D → Prop) : Prop :=
  match t with
  | .no _ => False
  | .ret es => Q (denL Γ ρ es)
  | .ite c a b => if (den Γ ρ c).b = true then ev Γ pre n s ρ a Q else ev Γ pre n s ρ b Q
  | .need c t => (den Γ ρ c).b = true ∧ ev Γ pre n s ρ t Q
  | .ask g f args t => ((den Γ ρ g).b = true → pre f (denL Γ ρ args)) ∧ ev Γ pre n s ρ t Q
  | .loop nv init body => ev Γ pre n ((nv, body) :: s) (ρ ++ denL Γ ρ init) body Q
  | .again lvl es => match n, s.drop lvl with
    | n + 1, (nv, body) :: r => ev Γ pre n ((nv, body) :: r) (ρ.take nv ++ denL Γ ρ es) body Q
    | _, _ => False
termination_by (n, t)

/-- Abstract values. 'b': a block's name, 'g': which of its headers. -/
inductive AV where
  | undef
  | skip
  | sc (t : Ty) (e : E)
  | nil
  | ro (ts : List Ty) (e : E)
  | orig (ts : List Ty) (i : Nat)
  | row (b g : Nat)
  | part (b g : Nat) (lo hi : E)
  | under (b g u : Nat) (i : E) (j : Nat) (ts : List Ty)
  | ptr (b g off : Nat)
  | eptr (b g : Nat) (i : E) (j : Nat)
  | rptr (ts : List Ty) (e i : E) (j : Nat)
  | uptr (b g u : Nat) (i : E) (j : Nat) (ts : List Ty) (k : E) (m : Nat)
  | agg (l : List AV)
  | tup (l : List AV)
  | maybe (c : E) (a : AV)
  deriving Repr, Inhabited

inductive Blk where
  | box (g : Nat) (cells : List AV)
  | row (g u : Nat) (ts : List Ty) (e : E) (own clean live : Bool)
  | gone (g : Nat)
  deriving Repr, Inhabited

/-- How a slice is handed over: to be read; to be written into; for good. -/
inductive Md where
  | ro | wr | give
  deriving DecidableEq, Repr, Inhabited

/-- What a slice that comes back is: to be read; in a block of its own; all of it in blocks of its own; (in a box) the one that was there. -/
inductive Rm where
  | ro | top | own | kept
  deriving DecidableEq, Repr, Inhabited

/-- What a parameter's cells are taken as; what a result's are. -/
inductive PK where
  | val (ts : List (Ty × Md)) (agg : Bool)
  | box (ts : List (Ty × Rm))     -- behind a pointer: cells; a slice cell with '.own' is a row of the box's own
  deriving Repr, Inhabited
/-- A result's shape: one cell, a struct's cells, or a pointer to a new struct. -/
inductive Shape where
  | one | agg | ptr
  deriving DecidableEq, Repr, Inhabited
structure RK where
  ts : List (Ty × Rm)
  shape : Shape
  deriving Repr, Inhabited
structure Sig where
  params : List PK
  res : List RK
  deriving Repr, Inhabited

/-- What an operation looks at, written down as it looks. -/
inductive Rd (α : Type) where
  | pure (a : α)
  | fail
  | slot (t : Nat) (k : AV → Rd α)
  | blk (b : Nat) (k : Option Blk → Rd α)

def Rd.bind {α β : Type} : Rd α → (α → Rd β) → Rd β
  | .pure a, f => f a
  | .fail, _ => .fail
  | .slot t k, f => .slot t fun v => (k v).bind f
  | .blk b k, f => .blk b fun v => (k v).bind f
instance : Monad Rd where
  pure := Rd.pure
  bind := Rd.bind

def Rd.run {α : Type} (sl : Nat → AV) (hp : Nat → Option Blk) : Rd α → Option (α × List Nat)
  | .pure a => some (a, [])
  | .fail => none
  | .slot t k => match (k (sl t)).run sl hp with
    | some (a, l) => some (a, 2 * t :: l)
    | none => none
  | .blk b k => match (k (hp b)).run sl hp with
    | some (a, l) => some (a, (2 * b + 1) :: l)
    | none => none

def Rd.val {α : Type} (sl : Nat → AV) (hp : Nat → Option Blk) (x : Rd α) : Option α := (x.run sl hp).map (·.1)

def rdSlot (t : Nat) : Rd AV := .slot t .pure
def rdBlk (b : Nat) : Rd (Option Blk) := .blk b .pure
def rdOpt {α : Type} : Option α → Rd α
  | some a => .pure a
  | none => .fail
def rdIf (b : Bool) : Rd Unit := if b then .pure () else .fail

/-- What an operation does: the value for its slot, the blocks that turn, what has to hold. -/
inductive Need where
  | e (c : E)
  | ask (f : Nat) (args : List E)
  deriving Repr, Inhabited
structure Eff where
  val : AV
  upd : List (Nat × Blk) := []
  need : List Need := []
  deriving Repr, Inhabited

/-! ### Types of the program -/

def tys (p : Program) : Nat → TypeId → Option (List Ty)
  | 0, _ => none
  | n + 1, t => match p.underlying t with
    | some (.int k) => some [.int k]
    | some .bool => some [.bool]
    | some .string => some [.str]
    | some (.slice e) => (tys p n e).map fun ts => [.sl ts]
    | some (.interface _) => some [.err]
    | some (.struct fs) => (fs.toList.mapM fun f => tys p n f.type).map List.flatten
    | _ => none

/-- A type's cells, if there are as many as the program says. -/
def tyOf (p : Program) (t : TypeId) : Option (List Ty) :=
  match tys p 12 t, p.info? t with
  | some ts, some i => if i.size = ts.length then some ts else none
  | _, _ => none
def aggOf (p : Program) (t : TypeId) : Option Bool :=
  match p.underlying t with
  | some (.struct _) => some true
  | some (.array ..) => none
  | some _ => some false
  | none => none
def elemOf (p : Program) (t : TypeId) : Option (TypeId × List Ty) :=
  match p.underlying t with
  | some (.slice e) => (tyOf p e).map fun ts => (e, ts)
  | _ => none

def inR (k : IntKind) (n : Int) : Bool := decide (k.min ≤ n) && decide (n ≤ k.max)

def constAV : Value → Option AV
  | .int k n => if inR k n then some (.sc (.int k) (.int n)) else none
  | .bool b => some (.sc .bool (.bool b))
  | .string s => if s.size < 1000000 then some (.sc .str (.str s.data.toList)) else none
  | .slice none 0 0 => some .nil
  | .nilIface => some (.sc .err (.bool false))
  | .pointer none => some .undef
  | _ => none

def zeroAV : Ty → Value → Option AV
  | .int k, .int k' n => if k = k' ∧ n = 0 then some (.sc (.int k) (.int 0)) else none
  | .bool, .bool b => some (.sc .bool (.bool b))
  | .str, .string s => if s.size = 0 then some (.sc .str (.str [])) else none
  | .err, .nilIface => some (.sc .err (.bool false))
  | .sl _, .slice none 0 0 => some .nil
  | _, _ => none
def zeroAVs : List Ty → List Value → Option (List AV)
  | [], [] => some []
  | t :: ts, v :: vs => match zeroAV t v, zeroAVs ts vs with
    | some a, some l => some (a :: l)
    | _, _ => none
  | _, _ => none
def zeroOf (p : Program) (t : TypeId) : Option (List AV) :=
  match tyOf p t, (p.info? t).bind (·.zero) with
  | some ts, some v => zeroAVs ts v.cells.toList
  | _, _ => none

/-! ### Looking at values -/

def E.and (a b : E) : E := .app .and [a, b]
def E.or (a b : E) : E := .app .or [a, b]
def E.not (a : E) : E := .app .not [a]
def E.lt (a b : E) : E := .app .lt [a, b]
def E.le (a b : E) : E := .app .le [a, b]
def E.len (a : E) : E := .app .len [a]
def E.cell (a i : E) (j : Nat) : E := .app (.cell j) [a, i]
def E.add (a b : E) : E := .app (.add .i64) [a, b]
def E.sub (a b : E) : E := .app (.sub .i64) [a, b]

def evalO : Operand → Rd AV
  | .tmp t => rdSlot t
  | .const v => rdOpt (constAV v)
  | _ => .fail

/-- The data behind a slice's value, as one of elements of these cells. -/
def viewSl (ts : List Ty) : AV → Rd E
  | .nil => .pure .nil
  | .ro ts' e => do rdIf (Ty.beqL ts' ts); .pure e
  | .orig ts' i => do rdIf (Ty.beqL ts' ts); .pure (.var i)
  | .row b g => do
    match ← rdBlk b with
    | some (.row g' _ ts' e _ _ _) => do rdIf (g' == g && Ty.beqL ts' ts); .pure e
    | _ => .fail
  | .part b g lo hi => do
    match ← rdBlk b with
    | some (.row g' _ ts' e _ _ _) => do rdIf (g' == g && Ty.beqL ts' ts); .pure (.app .slice [e, lo, hi])
    | _ => .fail
  | .under b g u i j ts0 => do
    match ← rdBlk b with
    | some (.row g' u' _ e _ _ true) => do rdIf (g' == g && u' == u && Ty.beqL ts0 ts); .pure (.cell e i j)
    | _ => .fail
  | _ => .fail

/-- The data of one cell of this type. -/
def viewCell (t : Ty) (v : AV) : Rd E :=
  match t, v with
  | .sl ts, v => viewSl ts v
  | t, .sc t' e => do rdIf (t.beq t'); .pure e
  | _, _ => .fail

def AV.cells : AV → List AV
  | .agg l => l
  | v => [v]
/-- A value of one cell. -/
def AV.one : AV → Bool
  | .undef => false
  | .skip => false
  | .agg _ => false
  | .tup _ => false
  | .maybe _ _ => false
  | _ => true
/-- One of which the cells are known. -/
def AV.plain : AV → Bool
  | .undef => false
  | .skip => false
  | .tup _ => false
  | .maybe _ _ => false
  | _ => true

/-- The cell that came in, loaded out of its box. -/
def AV.loaded : AV → AV
  | .orig ts i => .ro ts (.var i)
  | v => v

def viewCells : List Ty → List AV → Rd (List E)
  | [], [] => .pure []
  | t :: ts, v :: vs => do
    let e ← viewCell t v
    let es ← viewCells ts vs
    .pure (e :: es)
  | _, _ => .fail

/-- A cell that is put into a row: its data; whether it is handed over whole; the row that is used up. -/
def takeCell (t : Ty) (v : AV) : Rd (E × Bool × List (Nat × Blk)) :=
  match t, v with
  | .sl _, .nil => .pure (.nil, true, [])
  | .sl ts, .ro ts' e => do rdIf (Ty.beqL ts' ts); .pure (e, false, [])
  | .sl ts, .row b g => do
    match ← rdBlk b with
    | some (.row g' u ts' e own clean live) => do
      rdIf (g' == g && Ty.beqL ts' ts)
      .pure (e, own && live, [(b, .row g' u ts' e own clean false)])
    | _ => .fail
  | .sl ts, .part b g lo hi => do
    match ← rdBlk b with
    | some (.row g' u ts' e own clean _) => do
      rdIf (g' == g && Ty.beqL ts' ts)
      .pure (.app .slice [e, lo, hi], false, [(b, .row g' u ts' e own clean false)])
    | _ => .fail
  | .sl ts, .under b g u i j ts0 => do
    match ← rdBlk b with
    | some (.row g' u' _ e _ false true) => do rdIf (g' == g && u' == u && Ty.beqL ts0 ts); .pure (.cell e i j, false, [])
    | _ => .fail
  | t, .sc t' e => do rdIf (t.beq t'); .pure (e, true, [])
  | _, _ => .fail

def distinct : List Nat → Bool
  | [] => true
  | a :: l => !l.contains a && distinct l

/-- Names that have been used up may not be used up again. -/
def fresh (a b : List (Nat × Blk)) : Bool := a.all fun x => b.all fun y => !(x.1 == y.1)

def takeCells : List Ty → List AV → Rd (List E × Bool × List (Nat × Blk))
  | [], [] => .pure ([], true, [])
  | t :: ts, v :: vs => do
    let (e, o, u) ← takeCell t v
    let (es, os, us) ← takeCells ts vs
    rdIf (fresh u us)
    .pure (e :: es, o && os, u ++ us)
  | _, _ => .fail

def isSl : Ty → Bool
  | .sl _ => true
  | _ => false
def noSl (ts : List Ty) : Bool := ts.all fun t => !isSl t

/-- The cells of an element, as they are loaded out of data. -/
def loadRo (e i : E) : Nat → List Ty → List AV
  | _, [] => []
  | j, .sl ts :: r => .ro ts (.cell e i j) :: loadRo e i (j + 1) r
  | j, t :: r => .sc t (.cell e i j) :: loadRo e i (j + 1) r
def loadUnder (b g u : Nat) (e i : E) : Nat → List Ty → List AV
  | _, [] => []
  | j, .sl ts :: r => .under b g u i j ts :: loadUnder b g u e i (j + 1) r
  | j, t :: r => .sc t (.cell e i j) :: loadUnder b g u e i (j + 1) r

def wrapAgg (agg : Bool) (l : List AV) : Option AV :=
  if agg then some (.agg l) else match l with
    | [a] => some a
    | _ => none

def gen (b : Option Blk) : Nat := match b with
  | some (.box g _) => g + 1
  | some (.row g _ _ _ _ _ _) => g + 1
  | some (.gone g) => g + 1
  | none => 0

/-- The number of a block that an operation makes, out of its slot. -/
def nm (dst c : Nat) : Nat := dst * 64 + c

def scI (v : AV) : Rd (IntKind × E) :=
  match v with
  | .sc (.int k) e => .pure (k, e)
  | _ => .fail

def binEff (bt : Bool) (op : BinOp) (a b : AV) : Rd Eff :=
  match a, b with
  | .sc (.int k) x, .sc (.int k') y =>
    match op with
    | .shl => .pure { val := .sc (.int k) (.app (.shl k) [x, y]), need := [.e (.le (.int 0) y)] }
    | .shr => .pure { val := .sc (.int k) (.app (.shr k) [x, y]), need := [.e (.le (.int 0) y)] }
    | _ => if k = k' then
      match op with
      | .add => .pure { val := .sc (.int k) (.app (.add k) [x, y]) }
      | .sub => .pure { val := .sc (.int k) (.app (.sub k) [x, y]) }
      | .mul => .pure { val := .sc (.int k) (.app (.mul k) [x, y]) }
      | .quo => .pure { val := .sc (.int k) (.app (.quo k) [x, y]), need := [.e (.not (.app .eqi [y, .int 0]))] }
      | .rem => .pure { val := .sc (.int k) (.app .rem [x, y]), need := [.e (.not (.app .eqi [y, .int 0]))] }
      | .and => .pure { val := .sc (.int k) (.app (.band k) [x, y]) }
      | .or => .pure { val := .sc (.int k) (.app (.bor k) [x, y]) }
      | .xor => .pure { val := .sc (.int k) (.app (.bxor k) [x, y]) }
      | .lss => .pure { val := .sc .bool (.lt x y) }
      | .leq => .pure { val := .sc .bool (.le x y) }
      | .gtr => .pure { val := .sc .bool (.lt y x) }
      | .geq => .pure { val := .sc .bool (.le y x) }
      | .eql => .pure { val := .sc .bool (.app .eqi [x, y]) }
      | .neq => .pure { val := .sc .bool (.not (.app .eqi [x, y])) }
      | _ => .fail
      else .fail
  | .sc .bool x, .sc .bool y => if !bt then .fail else
    match op with
    | .eql => .pure { val := .sc .bool (.app .eqb [x, y]) }
    | .neq => .pure { val := .sc .bool (.not (.app .eqb [x, y])) }
    | _ => .fail
  | .sc .str x, .sc .str y =>
    match op with
    | .eql => .pure { val := .sc .bool (.app .eqs [x, y]) }
    | .neq => .pure { val := .sc .bool (.not (.app .eqs [x, y])) }
    | .add => .pure { val := .sc .str (.app .scat [x, y]), need := [.e (.le (.app .slen [.app .scat [x, y]]) (.int 9223372036854775807))] }
    | _ => .fail
  | _, _ => .fail

def isStr (p : Program) (t : TypeId) : Bool := match p.underlying t with
  | some .string => true
  | _ => false

/-- All fields alike: a struct of integers and bools. -/
def eqCells (p : Program) : List Field → List AV → List AV → Option E
  | [], _, _ => some (.bool true)
  | f :: fs, xs, ys => match p.underlying f.type, xs[f.offset]?, ys[f.offset]? with
    | some (.int _), some (.sc (.int k) x), some (.sc (.int k') y) =>
      if k = k' ∧ f.name ≠ "_" then (eqCells p fs xs ys).map fun e => .and (.app .eqi [x, y]) e else none
    | some .bool, some (.sc .bool x), some (.sc .bool y) =>
      if f.name ≠ "_" then (eqCells p fs xs ys).map fun e => .and (.app .eqb [x, y]) e else none
    | _, _, _ => none

def roomLen (n : E) : Need := .e (.le n (.int 274877906944))     -- 2^38

/-- What is handed to a callee: the data of its cells; the names that it may write; those that it may read; is all that it may write the caller's alone? -/
structure Lent where
  es : List E
  bs : List Nat
  vs : List Nat
  hard : Bool
  deriving Repr, Inhabited

/-- The names whose blocks are read and may be written yet. -/
def AV.names : AV → Rd (List Nat)
  | .row b _ => do
    match ← rdBlk b with
    | some (.row _ _ _ _ _ _ live) => .pure (if live then [b] else [])
    | _ => .fail
  | .part b _ _ _ => do
    match ← rdBlk b with
    | some (.row _ _ _ _ _ _ live) => .pure (if live then [b] else [])
    | _ => .fail
  | .under b _ _ _ _ _ => do
    match ← rdBlk b with
    | some (.row _ _ _ _ _ clean true) => .pure (if clean then [b] else [])
    | _ => .fail
  | _ => .pure []

def disj (a b : List Nat) : Bool := a.all fun x => !b.contains x

def Lent.cons (e : E) (b v : List Nat) (h : Bool) (l : Lent) : Rd Lent := do
  rdIf (disj b l.bs)
  .pure ⟨e :: l.es, b ++ l.bs, v ++ l.vs, h && l.hard⟩

def lendOwn (ts : List Ty) : AV → Rd (E × List Nat × Bool)
  | .row b g => do
    match ← rdBlk b with
    | some (.row g' _ ts' e true clean true) => do
      rdIf (g' == g && Ty.beqL ts' ts)
      .pure (e, [b], clean || noSl ts)
    | _ => .fail
  | .nil => .pure (.nil, [], true)
  | _ => .fail

def lendWr (ts : List Ty) : AV → Rd (E × List Nat × Bool)
  | .row b g => do
    match ← rdBlk b with
    | some (.row g' _ ts' e true clean true) => do
      rdIf (g' == g && Ty.beqL ts' ts && (clean || noSl ts))
      .pure (e, [b], true)
    | _ => .fail
  | .under b g u i j ts0 => do
    match ← rdBlk b with
    | some (.row g' u' _ e true true true) => do
      rdIf (g' == g && u' == u && Ty.beqL ts0 ts)
      .pure (.cell e i j, [b], true)
    | _ => .fail
  | .nil => .pure (.nil, [], true)
  | _ => .fail

def lendGive (ts : List Ty) : AV → Rd (E × List Nat × Bool)
  | .row b g => do
    match ← rdBlk b with
    | some (.row g' _ ts' e true _ true) => do
      rdIf (g' == g && Ty.beqL ts' ts && noSl ts)
      .pure (e, [b], true)
    | _ => .fail
  | .nil => .pure (.nil, [], true)
  | _ => .fail

def lendBox : List (Ty × Rm) → List AV → Rd Lent
  | [], [] => .pure ⟨[], [], [], true⟩
  | (.sl ts, .own) :: r, v :: s => do
    let l ← lendBox r s
    let (e, b, h) ← lendOwn ts v
    l.cons e b [] h
  | (t, _) :: r, v :: s => do
    let l ← lendBox r s
    let e ← viewCell t v
    l.cons e [] (← v.names) true
  | _, _ => .fail

/-- The cells of a value that is handed over. -/
def lendVal : List (Ty × Md) → List AV → Rd Lent
  | [], [] => .pure ⟨[], [], [], true⟩
  | (.sl ts, .wr) :: r, v :: s => do
    let l ← lendVal r s
    let (e, b, h) ← lendWr ts v
    l.cons e b [] h
  | (.sl ts, .give) :: r, v :: s => do
    let l ← lendVal r s
    let (e, b, h) ← lendGive ts v
    l.cons e b [] h
  | (t, _) :: r, v :: s => do
    let l ← lendVal r s
    let e ← viewCell t v
    l.cons e [] (← v.names) true
  | _, _ => .fail

def argCells (agg : Bool) : AV → Option (List AV)
  | .agg l => if agg then some l else none
  | v => if agg then none else some [v]

def lend : List PK → List AV → Rd Lent
  | [], [] => .pure ⟨[], [], [], true⟩
  | .val ts agg :: r, v :: s => do
    let l ← lend r s
    let cs ← rdOpt (argCells agg v)
    let k ← lendVal ts cs
    rdIf (disj k.bs l.bs)
    .pure ⟨k.es ++ l.es, k.bs ++ l.bs, k.vs ++ l.vs, k.hard && l.hard⟩
  | .box ts :: r, .ptr b g 0 :: s => do
    let l ← lend r s
    match ← rdBlk b with
    | some (.box g' cells) => do
      rdIf (g' == g)
      let k ← lendBox ts cells
      rdIf (!k.bs.contains b && disj (b :: k.bs) l.bs)
      .pure ⟨k.es ++ l.es, b :: k.bs ++ l.bs, k.vs ++ l.vs, k.hard && l.hard⟩
    | _ => .fail
  | _, _ => .fail

/-- Is there a slice among what comes back that is but read? -/
def Sig.hasRo (sg : Sig) : Bool :=
  (sg.res.any fun k => k.ts.any fun x => isSl x.1 && decide (x.2 ≠ .own) && decide (x.2 ≠ .kept)) ||
  sg.params.any fun k => match k with
    | .val _ _ => false
    | .box ts => ts.any fun x => isSl x.1 && decide (x.2 ≠ .own) && decide (x.2 ≠ .kept)

/-- What comes back: the results' cells, from number 'r' on; the own ones as new rows of the slot ('rows': no: as ones that are but read). -/
def takeRes (f : Nat) (args : List E) (dst : Nat) (clean rows : Bool) : Nat → List (Ty × Rm) → Rd (List AV × List (Nat × Blk))
  | _, [] => .pure ([], [])
  | r, (.sl ts, m) :: l => if !rows || decide (m = .ro) then do
      let (vs, us) ← takeRes f args dst clean rows (r + 1) l
      .pure (.ro ts (.app (.call f r) args) :: vs, us)
    else do
    let g := gen (← rdBlk (nm dst r))
    let (vs, us) ← takeRes f args dst clean rows (r + 1) l
    .pure (.row (nm dst r) g :: vs, (nm dst r, .row g 0 ts (.app (.call f r) args) (decide (m = .own)) (clean && decide (m = .own)) true) :: us)
  | r, (t, _) :: l => do
    let (vs, us) ← takeRes f args dst clean rows (r + 1) l
    .pure (.sc t (.app (.call f r) args) :: vs, us)

def takeAll (f : Nat) (args : List E) (dst : Nat) (clean rows : Bool) : Nat → List RK → Rd (List AV × List (Nat × Blk) × Nat)
  | r, [] => .pure ([], [], r)
  | r, k :: l => do
    let (vs, us) ← takeRes f args dst clean rows r k.ts
    match k.shape with
    | .ptr => do
      let g := gen (← rdBlk (nm dst 63))
      let (ws, us', n) ← takeAll f args dst clean rows (r + k.ts.length) l
      rdIf (decide (r = 0) && decide (k.ts.length < 60) && l.isEmpty && rows)
      .pure (.ptr (nm dst 63) g 0 :: ws, (nm dst 63, .box g vs) :: us ++ us', n)
    | sh => do
      let v ← rdOpt (wrapAgg (decide (sh = .agg)) vs)
      let (ws, us', n) ← takeAll f args dst clean rows (r + k.ts.length) l
      .pure (v :: ws, us ++ us', n)

/-- The boxes behind pointers, as the callee leaves them. -/
def backBox (f : Nat) (args : List E) (dst : Nat) (keep : Bool) : Nat → List (Ty × Rm) → List AV → Rd (List AV × List (Nat × Blk))
  | _, [], [] => .pure ([], [])
  | r, (.sl ts, .own) :: l, v :: s => do
    let (vs, us) ← backBox f args dst keep (r + 1) l s
    match v with
    | .row b g => do
      match ← rdBlk b with
      | some (.row g' u _ _ _ clean _) => do
        rdIf (g' == g)
        .pure (.row b (g + 1) :: vs, (b, .row (g + 1) u ts (.app (.call f r) args) true (clean && keep) true) :: us)
      | _ => .fail
    | .nil => do
      let g := gen (← rdBlk (nm dst r))
      .pure (.row (nm dst r) g :: vs, (nm dst r, .row g 0 ts (.app (.call f r) args) true false true) :: us)
    | _ => .fail
  | r, (.sl _, .kept) :: l, v :: s => do
    let (vs, us) ← backBox f args dst keep (r + 1) l s
    .pure (v :: vs, us)
  | r, (.sl ts, _) :: l, _ :: s => do
    let (vs, us) ← backBox f args dst keep (r + 1) l s
    .pure (.ro ts (.app (.call f r) args) :: vs, us)
  | r, (t, _) :: l, _ :: s => do
    let (vs, us) ← backBox f args dst keep (r + 1) l s
    .pure (.sc t (.app (.call f r) args) :: vs, us)
  | _, _, _ => .fail

/-- The rows that the callee has written into. -/
def backVal (f : Nat) (args : List E) (keep : Bool) : Nat → List (Ty × Md) → List AV → Rd (List (Nat × Blk) × Nat)
  | r, [], [] => .pure ([], r)
  | r, (.sl ts', .wr) :: l, v :: s => do
    let (us, n) ← backVal f args keep (r + 1) l s
    match v with
    | .row b _ => do
      match ← rdBlk b with
      | some (.row g u ts _ own clean live) => .pure ((b, .row g (if noSl ts' then u else u + 1) ts (.app (.call f r) args) own (clean && (keep || noSl ts')) live) :: us, n)
      | _ => .fail
    | .under b _ _ i j _ => do
      match ← rdBlk b with
      | some (.row g u ts e own clean live) => .pure ((b, .row g u ts (.app (.setl j) [e, i, .app (.call f r) args]) own (clean && (keep || noSl ts')) live) :: us, n)
      | _ => .fail
    | .nil => .pure (us, n)
    | _ => .fail
  | r, (.sl _, .give) :: l, v :: s => do
    let (us, n) ← backVal f args keep r l s
    match v with
    | .row b g => .pure ((b, .gone g) :: us, n)
    | _ => .pure (us, n)
  | r, _ :: l, _ :: s => backVal f args keep r l s
  | _, _, _ => .fail

def back (f : Nat) (args : List E) (dst : Nat) (keep : Bool) : Nat → List PK → List AV → Rd (List (Nat × Blk))
  | _, [], [] => .pure []
  | r, .val ts agg :: l, v :: s => do
    let cs ← rdOpt (argCells agg v)
    let (us, n) ← backVal f args keep r ts cs
    let us' ← back f args dst keep n l s
    .pure (us ++ us')
  | r, .box ts :: l, .ptr b _ _ :: s => do
    match ← rdBlk b with
    | some (.box g cells) => do
      let (vs, us) ← backBox f args dst keep r ts cells
      let us' ← back f args dst keep (r + ts.length) l s
      .pure ((b, .box g vs) :: us ++ us')
    | _ => .fail
  | _, _, _ => .fail

/-- Each parameter is of a form that this knows. -/
def sigOk (s : Sig) : Bool := (s.res.all fun k => k.ts.all fun x => decide (x.2 ≠ .kept)) && s.params.all fun k => match k with
  | .val ts agg => (agg || ts.length == 1) && decide (ts.length < 60)
  | .box ts => decide (ts.length < 60) && ts.all fun x => decide (x.2 ≠ .top) && (decide (x.2 ≠ .own) || match x.1 with
    | .sl t => noSl t
    | _ => true)

/-- Rows that have been looked at, used up. -/
def useUp : List Nat → Rd (List (Nat × Blk))
  | [] => .pure []
  | b :: r => do
    let us ← useUp r
    match ← rdBlk b with
    | some (.row g u ts e own clean _) => .pure ((b, .row g u ts e own clean false) :: us)
    | _ => .fail

def undup : List Nat → List Nat
  | [] => []
  | a :: l => if l.contains a then undup l else a :: undup l

def callEff (sigs : Nat → Option Sig) (clean : List Nat) (rows : Bool) (f : Nat) (dst : Nat) (args : List AV) : Rd Eff := do
  let sg ← rdOpt (sigs f)
  let l ← lend sg.params args
  rdIf (disj l.bs l.vs && sigOk sg)
  let keep := l.hard && !sg.hasRo
  let (vs, us, n) ← takeAll f l.es dst (clean.contains dst && keep) rows 0 sg.res
  let bs ← back f l.es dst keep n sg.params args
  let names := (us ++ bs).map (·.1)
  rdIf (distinct names)
  let rs ← useUp (if sg.hasRo then undup (l.vs.filter fun b => !names.contains b) else [])
  let v ← rdOpt (match vs with
    | [v] => some v
    | vs => some (.tup vs))
  .pure { val := v, upd := us ++ bs ++ rs, need := [.ask f l.es] }

/-- A row of rows that is put behind: its data; whether it is handed over whole; what is used up. -/
def appSl (ts : List Ty) : AV → Rd (E × Bool × List (Nat × Blk))
  | .row b g => do
    match ← rdBlk b with
    | some (.row g' u ts' e own clean live) => do
      rdIf (g' == g && Ty.beqL ts' ts)
      .pure (e, own && live, [(b, .row g' u ts' e own clean false)])
    | _ => .fail
  | .part b g lo hi => do
    match ← rdBlk b with
    | some (.row g' _ ts' e _ clean live) => do
      rdIf (g' == g && Ty.beqL ts' ts && (!live || !clean))
      .pure (.app .slice [e, lo, hi], false, [])
    | _ => .fail
  | .nil => .pure (.nil, false, [])
  | .ro ts' e => do rdIf (Ty.beqL ts' ts); .pure (e, false, [])
  | _ => .fail

/-- What is put behind. -/
def appSrc (ts : List Ty) (v : AV) : Rd (E × Bool × List (Nat × Blk)) :=
  match v with
  | .sc .str e => do rdIf (Ty.beqL ts [.int .u8]); .pure (.app .sbytes [e], true, [])
  | v => if noSl ts then do
      let e ← viewSl ts v
      .pure (e, true, [])
    else appSl ts v

def appendEff (p : Program) (dst : Nat) (t : TypeId) (s x : AV) : Rd Eff := do
  let (et, ts) ← rdOpt (elemOf p t)
  rdIf (decide (p.bytesOf et ≤ 512) && (zeroOf p et).isSome)
  match s with
  | .nil => do
    let (e, o, us) ← appSrc ts x
    rdIf (us.all fun y => !(y.1 == nm dst 0))
    let g := gen (← rdBlk (nm dst 0))
    .pure { val := .row (nm dst 0) g, upd := (nm dst 0, .row g 0 ts e o false true) :: us, need := [roomLen (.len e)] }
  | .row b g => do
    match ← rdBlk b with
    | some (.row g' u ts' e own _ true) => do
      rdIf (g' == g && Ty.beqL ts' ts)
      let (ex, o, us) ← appSrc ts x
      rdIf (us.all fun y => !(y.1 == b))
      let e' := E.app .cat [e, ex]
      .pure { val := .row b (g + 1), upd := (b, .row (g + 1) u ts e' (own && o) false true) :: us, need := [roomLen (.len e')] }
    | _ => .fail
  | .part b g lo hi => do
    match x with
    | .part b' g2 lo' hi' => do
      rdIf (b' == b && g2 == g && lo.beq (.int 0))
      match ← rdBlk b with
      | some (.row g' u ts' e own _ true) => do
        rdIf (g' == g && Ty.beqL ts' ts && hi'.beq (.len e))
        .pure { val := .row b (g + 1), upd := [(b, .row (g + 1) u ts (.app .cat [.app .slice [e, .int 0, hi], .app .slice [e, lo', hi']]) own false true)],
                need := [.e (.le hi lo')] }
      | _ => .fail
    | _ => .fail
  | .under b g u i j ts0 => do
    match ← rdBlk b with
    | some (.row g' u' tsb e true true true) => do
      rdIf (g' == g && u' == u && Ty.beqL ts0 ts && noSl ts)
      let ex ← viewSl ts x
      let e' := E.app .cat [.cell e i j, ex]
      .pure { val := .ro ts e', upd := [(b, .row g' u' tsb e false false true)], need := [roomLen (.len e')] }
    | _ => .fail
  | _ => .fail

/-- A view whose element is addressed. -/
def idxEff (p : Program) (t : TypeId) (x i : AV) : Rd Eff := do
  let (_, ts) ← rdOpt (elemOf p t)
  let (_, ei) ← scI i
  match x with
  | .nil => .pure { val := .undef, need := [.e (.bool false)] }
  | .ro ts' e => do
    rdIf (Ty.beqL ts' ts)
    .pure { val := .rptr ts e ei 0, need := [.e (.le (.int 0) ei), .e (.lt ei (.len e))] }
  | .row b g => do
    match ← rdBlk b with
    | some (.row g' _ ts' e _ _ live) => do
      rdIf (g' == g && Ty.beqL ts' ts)
      .pure { val := if live then .eptr b g ei 0 else .rptr ts e ei 0, need := [.e (.le (.int 0) ei), .e (.lt ei (.len e))] }
    | _ => .fail
  | .part b g lo hi => do
    match ← rdBlk b with
    | some (.row g' _ ts' e _ _ live) => do
      rdIf (g' == g && Ty.beqL ts' ts)
      .pure { val := if live then .eptr b g (.add lo ei) 0 else .rptr ts (.app .slice [e, lo, hi]) ei 0,
              need := [.e (.le (.int 0) ei), .e (.lt ei (.len (.app .slice [e, lo, hi])))] }
    | _ => .fail
  | .under b g u ii j ts0 => do
    match ← rdBlk b with
    | some (.row g' u' _ e _ _ true) => do
      rdIf (g' == g && u' == u && Ty.beqL ts0 ts)
      .pure { val := .uptr b g u ii j ts ei 0, need := [.e (.le (.int 0) ei), .e (.lt ei (.len (.cell e ii j)))] }
    | _ => .fail
  | _ => .fail

def loadEff (p : Program) (t : TypeId) (a : AV) : Rd Eff := do
  let ts ← rdOpt (tyOf p t)
  let agg ← rdOpt (aggOf p t)
  match a with
  | .ptr b g off => do
    match ← rdBlk b with
    | some (.box g' cells) => do
      rdIf (g' == g && decide (off + ts.length ≤ cells.length))
      let v ← rdOpt (wrapAgg agg (((cells.drop off).take ts.length).map AV.loaded))
      .pure { val := v }
    | _ => .fail
  | .eptr b g i j => do
    match ← rdBlk b with
    | some (.row g' u tsb e own _ true) => do
      rdIf (g' == g && Ty.beqL ((tsb.drop j).take ts.length) ts)
      let v ← rdOpt (wrapAgg agg (if own then loadUnder b g u e i j ts else loadRo e i j ts))
      .pure { val := v }
    | _ => .fail
  | .rptr tsb e i j => do
    rdIf (Ty.beqL ((tsb.drop j).take ts.length) ts)
    let v ← rdOpt (wrapAgg agg (loadRo e i j ts))
    .pure { val := v }
  | .uptr b g u i j tsb k m => do
    match ← rdBlk b with
    | some (.row g' u' _ e _ clean true) => do
      rdIf (g' == g && u' == u && Ty.beqL ((tsb.drop m).take ts.length) ts && (!clean || noSl ts))
      let v ← rdOpt (wrapAgg agg (loadRo (.cell e i j) k m ts))
      .pure { val := v }
    | _ => .fail
  | _ => .fail

/-- Is it the slice that stands at this place? -/
def AV.sameAt (b g u : Nat) (i : E) (j : Nat) : AV → Bool
  | .under b' g' u' i' j' _ => b' == b && g' == g && u' == u && i'.beq i && j' == j
  | _ => false

/-- Cells stored into an element, from cell 'j' on: the data; are they the caller's own still; what is used up; was it but what stood there? -/
def putCells (b g u : Nat) (i : E) : E → Nat → List Ty → List AV → Rd (E × Bool × Bool × List (Nat × Blk))
  | e, _, [], [] => .pure (e, true, true, [])
  | e, j, t :: ts, v :: vs => do
    if v.sameAt b g u i j then putCells b g u i e (j + 1) ts vs
    else do
      let (x, o, us) ← takeCell t v
      let (e', o', s', us') ← putCells b g u i (.app (.set j) [e, i, x]) (j + 1) ts vs
      rdIf (fresh us us')
      .pure (e', o && o', !isSl t && s', us ++ us')
  | _, _, _, _ => .fail

def storeEff (p : Program) (t : TypeId) (a v : AV) : Rd Eff := do
  let ts ← rdOpt (tyOf p t)
  match a with
  | .ptr b g off => do
    match ← rdBlk b with
    | some (.box g' cells) => do
      let cs := v.cells
      rdIf (v.plain && g' == g && decide (off + ts.length ≤ cells.length) && decide (cs.length = ts.length) && cs.all AV.one)
      .pure { val := .undef, upd := [(b, .box g' (cells.take off ++ cs ++ cells.drop (off + ts.length)))] }
    | _ => .fail
  | .eptr b g i j => do
    match ← rdBlk b with
    | some (.row g' u tsb e own clean true) => do
      rdIf (g' == g && Ty.beqL ((tsb.drop j).take ts.length) ts && !ts.isEmpty && v.plain)
      let (e', o, same, us) ← putCells b g u i e j ts v.cells
      rdIf (us.all fun y => !(y.1 == b))
      .pure { val := .undef, upd := (b, .row g' (if same then u else u + 1) tsb e' (own && o) (clean && same) true) :: us }
    | _ => .fail
  | .uptr b g u i j tsb k m => do
    match ← rdBlk b with
    | some (.row g' u' tsr e true true true) => do
      rdIf (g' == g && u' == u && Ty.beqL ((tsb.drop m).take ts.length) ts && noSl ts && decide (ts.length = 1))
      match v with
      | .sc t' x => do
        rdIf (Ty.beqL ts [t'])
        .pure { val := .undef, upd := [(b, .row g' u' tsr (.app (.setd j m) [e, i, k, x]) true true true)] }
      | _ => .fail
    | _ => .fail
  | _ => .fail

def fieldOff (p : Program) (t : TypeId) (f : Nat) : Option (Nat × TypeId) :=
  match p.underlying t with
  | some (.struct fs) => match fs[f]? with
    | some fd => match p.info? fd.type with
      | some i => if i.size = 0 then none else some (fd.offset, fd.type)
      | none => none
    | none => none
  | _ => none

def fillAV : List (Nat × Nat) → List AV → List (Nat × AV) → Option (List AV)
  | _, cs, [] => some cs
  | ps, cs, (i, v) :: r => match ps[i]? with
    | some (off, n) => if v.plain && decide (v.cells.length = n) && decide (off + n ≤ cs.length) then fillAV ps (cs.take off ++ v.cells ++ cs.drop (off + n)) r else none
    | none => none

def mapRd {α β : Type} (f : α → Rd β) : List α → Rd (List β)
  | [] => .pure []
  | a :: as => do
    let b ← f a
    let bs ← mapRd f as
    .pure (b :: bs)

def buildPlaces (p : Program) (t : TypeId) : Option (List (Nat × Nat)) :=
  match p.underlying t with
  | some (.struct fs) => fs.toList.mapM fun f => (p.info? f.type).map fun i => (f.offset, i.size)
  | _ => none

/-- The cells of a list that is written out. -/
def litAt (zero : List AV) (parts : List (Nat × AV)) (n : Nat) : List AV := match parts.find? (fun x => x.1 == n) with
  | some (_, v) => v.cells
  | none => zero
def litCells (size : Nat) (zero : List AV) (parts : List (Nat × AV)) : Nat → Option (List AV)
  | 0 => some []
  | n + 1 => match litCells size zero parts n with
    | none => none
    | some l => if (litAt zero parts n).length = size then some (l ++ litAt zero parts n) else none

def repTys (ts : List Ty) : Nat → List Ty
  | 0 => []
  | n + 1 => ts ++ repTys ts n

/-- Where 'g' holds 'c' holds. -/
def implied (c : E) : Nat → E → Bool
  | 0, g => c.beq g
  | n + 1, g => c.beq g || match g with
    | .app .and [x, _] => implied c n x
    | _ => false

/-- An operand, where 'g' holds. -/
def evalG (g : E) (x : Operand) : Rd AV := do
  match ← evalO x with
  | .maybe c v => .pure (if implied c 12 g then v else .maybe c v)
  | v => .pure v

/-- A slice's bound. -/
def bound (ev : Operand → Rd AV) (d : E) : Option Operand → Rd E
  | none => .pure d
  | some x => do .pure (← scI (← ev x)).2

def opEff (p : Program) (sigs : Nat → Option Sig) (clean : List Nat) (g : E) (o : Oper) : Rd Eff :=
  let evalO := evalG g
  let dst := o.dst.getD 0
  match o.op with
  | .move x | .assign x => do .pure { val := ← evalO x }
  | .pick c a b => do
    match ← evalO c, ← evalO a, ← evalO b with
    | .sc .bool (.bool true), x, _ => .pure { val := x }
    | .sc .bool (.bool false), _, x => .pure { val := x }
    | .sc .bool ec, .sc .bool ea, .sc .bool eb => .pure { val := .sc .bool (.app .ite [ec, ea, eb]) }
    | .sc .bool ec, .sc .bool ea, .maybe g (.sc .bool eb) => .pure { val := .sc .bool (.app .ite [ec, ea, eb]), need := [.e (.or ec g)] }
    | .sc .bool ec, .maybe g (.sc .bool ea), .sc .bool eb => .pure { val := .sc .bool (.app .ite [ec, ea, eb]), need := [.e (.or (.not ec) g)] }
    | _, _, _ => .fail
  | .alloc t => do
    let z ← rdOpt (zeroOf p t)
    let g := gen (← rdBlk (nm dst 0))
    rdIf o.dst.isSome
    .pure { val := .ptr (nm dst 0) g 0, upd := [(nm dst 0, .box g z)] }
  | .box t x => do
    let ts ← rdOpt (tyOf p t)
    let v ← evalO x
    rdIf (v.plain && decide (v.cells.length = ts.length) && o.dst.isSome)
    let g := gen (← rdBlk (nm dst 0))
    .pure { val := .ptr (nm dst 0) g 0, upd := [(nm dst 0, .box g v.cells)] }
  | .build t parts => do
    let z ← rdOpt (zeroOf p t)
    let ps ← rdOpt (buildPlaces p t)
    let vs ← mapRd (fun (x : Nat × Operand) => do .pure (x.1, ← evalO x.2)) parts.toList
    let cs ← rdOpt (fillAV ps z vs)
    .pure { val := .agg cs }
  | .buildSlice t n parts => do
    let (et, ts) ← rdOpt (elemOf p t)
    rdIf (o.dst.isSome && decide (n * ts.length ≤ 4096))
    let z ← rdOpt (zeroOf p et)
    let vs ← mapRd (fun (x : Nat × Operand) => do .pure (x.1, ← evalO x.2)) parts.toList
    rdIf ((vs.all fun x => decide (x.1 < n) && x.2.plain) && distinct (vs.map (·.1)) && !ts.isEmpty)
    let cs ← rdOpt (litCells ts.length z vs n)
    let (es, own, us) ← takeCells (repTys ts n) cs
    let g := gen (← rdBlk (nm dst 0))
    rdIf (us.all fun y => !(y.1 == nm dst 0))
    .pure { val := .row (nm dst 0) g, upd := (nm dst 0, .row g 0 ts (if n = 0 then .nil else .app (.mk ts.length) es) own false true) :: us }
  | .load t a => do loadEff p t (← evalO a)
  | .store t a v => do
    let av ← evalO v
    storeEff p t (← evalO a) av
  | .nilCheck x => do
    match ← evalO x with
    | .ptr b g off => .pure { val := .ptr b g off }
    | .eptr b g i j => .pure { val := .eptr b g i j }
    | .rptr ts e i j => .pure { val := .rptr ts e i j }
    | .uptr b g u i j ts k m => .pure { val := .uptr b g u i j ts k m }
    | _ => .fail
  | .binOp op t x y _ => do
    match ← evalO x, ← evalO y with
    | .agg a, .agg b => do
      let fs ← rdOpt (match p.underlying t with
        | some (.struct fs) => some fs
        | _ => none)
      rdIf (!p.stoodInHeld t && !p.eqGuardType p.depth t)
      let e ← rdOpt (eqCells p fs.toList a b)
      match op with
      | .eql => .pure { val := .sc .bool e }
      | .neq => .pure { val := .sc .bool (.not e) }
      | _ => .fail
    | .sc .err a, .sc .err b => do
      rdIf (b.beq (.bool false) && (match p.underlying t, y with
        | some (.interface _), .const .nilIface => true
        | _, _ => false))
      match op with
      | .eql => .pure { val := .sc .bool (.not a) }
      | .neq => .pure { val := .sc .bool a }
      | _ => .fail
    | a, b => binEff (match p.underlying t with
        | some .bool => true
        | _ => false) op a b
  | .unOp op _ x => do
    match op, ← evalO x with
    | .not, .sc .bool e => .pure { val := .sc .bool (.not e) }
    | .neg, .sc (.int k) e => .pure { val := .sc (.int k) (.app (.sub k) [.int 0, e]) }
    | _, _ => .fail
  | .convert src d x => do
    match p.underlying src, p.underlying d, ← evalO x with
    | some _, some (.int k), .sc (.int _) e => .pure { val := .sc (.int k) (.app (.conv k) [e]) }
    | some (.slice et), some .string, v => do
      rdIf (match p.underlying et with
        | some (.int .u8) => true
        | _ => false)
      let e ← viewSl [.int .u8] v
      .pure { val := .sc .str (.app .sofb [e]) }
    | _, _, _ => .fail
  | .makeSlice t l c => do
    let (et, ts) ← rdOpt (elemOf p t)
    let (_, el) ← scI (← evalO l)
    let (_, ec) ← scI (← evalO c)
    let z ← rdOpt (zeroOf p et)
    let (zs, own, us) ← takeCells ts z
    rdIf (o.dst.isSome && own && us.isEmpty && decide (p.bytesOf et ≤ 512) && el.beq ec)
    let g := gen (← rdBlk (nm dst 0))
    .pure { val := .row (nm dst 0) g, upd := [(nm dst 0, .row g 0 ts (.app .rep (el :: zs)) true false true)], need := [.e (.le (.int 0) el), roomLen el] }
  | .slice t x lo hi mx => do
    rdIf mx.isNone
    let v ← evalO x
    let elo ← bound evalO (.int 0) lo
    match v with
    | .sc .str e => do
      rdIf (isStr p t)
      let h ← bound evalO (.app .slen [e]) hi
      .pure { val := .sc .str (.app .ssub [e, elo, h]), need := [.e (.le (.int 0) elo), .e (.le elo h), .e (.le h (.app .slen [e]))] }
    | v => do
      let (_, ts) ← rdOpt (elemOf p t)
      match v with
      | .ro ts' e => do
        rdIf (Ty.beqL ts' ts)
        let h ← bound evalO (.len e) hi
        .pure { val := .ro ts (.app .slice [e, elo, h]), need := [.e (.le (.int 0) elo), .e (.le elo h), .e (.le h (.len e))] }
      | .nil => do
        let h ← bound evalO (.int 0) hi
        .pure { val := .nil, need := [.e (.le (.int 0) elo), .e (.le elo h), .e (.le h (.int 0))] }
      | .row b g => do
        match ← rdBlk b with
        | some (.row g' _ ts' e _ _ live) => do
          rdIf (g' == g && Ty.beqL ts' ts)
          let h ← bound evalO (.len e) hi
          .pure { val := if live then .part b g elo h else .ro ts (.app .slice [e, elo, h]), need := [.e (.le (.int 0) elo), .e (.le elo h), .e (.le h (.len e))] }
        | _ => .fail
      | .part b g lo0 hi0 => do
        match ← rdBlk b with
        | some (.row g' _ ts' e0 _ _ false) => do
          rdIf (g' == g && Ty.beqL ts' ts)
          let e := E.app .slice [e0, lo0, hi0]
          let h ← bound evalO (.len e) hi
          .pure { val := .ro ts (.app .slice [e, elo, h]), need := [.e (.le (.int 0) elo), .e (.le elo h), .e (.le h (.len e))] }
        | _ => .fail
      | .under b g u i j ts0 => do
        match ← rdBlk b with
        | some (.row g' u' _ e0 _ false true) => do
          rdIf (g' == g && u' == u && Ty.beqL ts0 ts)
          let e := E.cell e0 i j
          let h ← bound evalO (.len e) hi
          .pure { val := .ro ts (.app .slice [e, elo, h]), need := [.e (.le (.int 0) elo), .e (.le elo h), .e (.le h (.len e))] }
        | _ => .fail
      | _ => .fail
  | .fieldAddr t x f => do
    let (off, _) ← rdOpt (fieldOff p t f)
    match ← evalO x with
    | .ptr b g j => .pure { val := .ptr b g (j + off) }
    | .eptr b g i j => .pure { val := .eptr b g i (j + off) }
    | .rptr ts e i j => .pure { val := .rptr ts e i (j + off) }
    | .uptr b g u i j ts k m => .pure { val := .uptr b g u i j ts k (m + off) }
    | _ => .fail
  | .field t x f => do
    let (off, ft) ← rdOpt (fieldOff p t f)
    let ts ← rdOpt (tyOf p ft)
    let agg ← rdOpt (aggOf p ft)
    match ← evalO x with
    | .agg l => do
      rdIf (decide (off + ts.length ≤ l.length))
      let v ← rdOpt (wrapAgg agg ((l.drop off).take ts.length))
      .pure { val := v }
    | _ => .fail
  | .indexAddr t x i => do
    let v ← evalO x
    idxEff p t v (← evalO i)
  | .index t x i => do
    match ← evalO x with
    | .sc .str e => do
      rdIf (isStr p t)
      let (_, ei) ← scI (← evalO i)
      .pure { val := .sc (.int .u8) (.app .sbyte [e, ei]), need := [.e (.le (.int 0) ei), .e (.lt ei (.app .slen [e]))] }
    | _ => .fail
  | .extract x i => do
    match ← evalO x with
    | .tup l => do
      let v ← rdOpt l[i]?
      .pure { val := v }
    | _ => .fail
  | .call c => do
    let vs ← mapRd evalO c.args.toList
    match c.callee with
    | .value (.func f) => do
      rdIf o.dst.isSome
      callEff sigs clean (match g with | .bool true => true | _ => false) f dst vs
    | .builtin .len => do
      match vs with
      | [.sc .str e] => do
        let t ← rdOpt c.argTypes[0]?
        rdIf (isStr p t)
        .pure { val := .sc (.int .i64) (.app .slen [e]) }
      | [v] => do
        let t ← rdOpt c.argTypes[0]?
        let (_, ts) ← rdOpt (elemOf p t)
        let e ← viewSl ts v
        .pure { val := .sc (.int .i64) (.len e) }
      | _ => .fail
    | .builtin .append => do
      let t ← rdOpt c.argTypes[0]?
      let t' ← rdOpt c.argTypes[1]?
      rdIf (o.dst.isSome && (match p.underlying t' with
        | some (.slice _) => true
        | some .string => true
        | _ => false))
      match vs with
      | [s, x] => appendEff p dst t s x
      | _ => .fail
    | .builtin .min => do
      match vs with
      | [.sc (.int k) a, .sc (.int k') b] => do rdIf (decide (k = k')); .pure { val := .sc (.int k) (.app .mn [a, b]) }
      | _ => .fail
    | .builtin .max => do
      match vs with
      | [.sc (.int k) a, .sc (.int k') b] => do rdIf (decide (k = k')); .pure { val := .sc (.int k) (.app .mx [a, b]) }
      | [.sc (.int k) a, .sc (.int k') b, .sc (.int k2) c] => do
        rdIf (decide (k = k') && decide (k = k2))
        .pure { val := .sc (.int k) (.app .mx [.app .mx [a, b], c]) }
      | _ => .fail
    | _ => .fail
  | _ => .fail

end Go.Sx
