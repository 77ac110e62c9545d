/-
  The machine, part B: states, regions in whatever order, loops' heads, the run of a function's whole code.
-/
import Derived.Test.YtnglgoloeabbeaaMA
namespace Go.Sx
open Go

structure St where
  slots : List (Nat × AV)
  heap : List (Nat × Blk)
  deriving Repr, Inhabited

def lookAV : List (Nat × AV) → Nat → AV
  | [], _ => .undef
  | (i, v) :: r, t => if i == t then v else lookAV r t
def lookBlk : List (Nat × Blk) → Nat → Option Blk
  | [], _ => none
  | (i, v) :: r, t => if i == t then some v else lookBlk r t
def St.slot (s : St) : Nat → AV := lookAV s.slots
def St.blk (s : St) : Nat → Option Blk := lookBlk s.heap

def putAll : List (Nat × Blk) → List (Nat × Blk) → List (Nat × Blk)
  | h, [] => h
  | h, (b, x) :: r => putAll ((b, x) :: h) r

/-- What has to hold, under a guard. -/
structure Ask where
  g : E
  n : Need
  deriving Repr, Inhabited

def T.wrap : List Ask → T → T
  | [], t => t
  | ⟨.bool true, .e c⟩ :: r, t => .need c (T.wrap r t)
  | ⟨g, .e c⟩ :: r, t => .need (.or (.not g) c) (T.wrap r t)
  | ⟨g, .ask f args⟩ :: r, t => .ask g f args (T.wrap r t)

def AV.same : AV → AV → Bool
  | .sc t e, .sc t' e' => t.beq t' && e.beq e'
  | .nil, .nil => true
  | .ro ts e, .ro ts' e' => Ty.beqL ts ts' && e.beq e'
  | .orig ts i, .orig ts' i' => Ty.beqL ts ts' && i == i'
  | .row b g, .row b' g' => b == b' && g == g'
  | .ptr b g o, .ptr b' g' o' => b == b' && g == g' && o == o'
  | _, _ => false

/-- What there is where 'g' holds, else what there was. -/
def mergeAV (g : E) : List AV → List AV → Option (List AV)
  | [], [] => some []
  | o :: os, n :: ns => match mergeAV g os ns with
    | none => none
    | some l => if o.same n then some (o :: l) else match o, n with
      | .sc t a, .sc t' b => if t.beq t' then some (.sc t (.app .ite [g, b, a]) :: l) else none
      | .ro ts a, .ro ts' b => if Ty.beqL ts ts' then some (.ro ts (.app .ite [g, b, a]) :: l) else none
      | _, _ => none
  | _, _ => none

def mergeUpd (g : E) : List (Nat × Blk) → Rd (List (Nat × Blk))
  | [] => .pure []
  | (b, x) :: r => do
    let us ← mergeUpd g r
    match x, ← rdBlk b with
    | .box k cells, some (.box k' old) => do
      rdIf (k == k')
      let l ← rdOpt (mergeAV g old cells)
      .pure ((b, .box k l) :: us)
    | .row k u ts e own clean false, some (.row k' u' ts' e' own' clean' _) => do
      rdIf (k == k' && u == u' && Ty.beqL ts ts' && e.beq e' && own == own' && clean == clean')
      .pure ((b, .row k u ts e own clean false) :: us)
    | _, _ => .fail

/-- An operation, where 'g' holds. -/
def runG (p : Program) (sigs : Nat → Option Sig) (clean : List Nat) (o : Oper) (g : E) : Rd (Eff × List Ask) := do
  let e ← opEff p sigs clean g o
  match g with
  | .bool true => .pure (e, e.need.map fun n => ⟨g, n⟩)
  | g => do
    rdIf ((match e.val with | .maybe _ _ => false | _ => true) && distinct (e.upd.map (·.1)))
    let us ← mergeUpd g e.upd
    .pure ({ e with val := .maybe g e.val, upd := us }, e.need.map fun n => ⟨g, n⟩)

/-- One operation of a region, with its guard: what it does. -/
def stepRd (p : Program) (sigs : Nat → Option Sig) (clean : List Nat) (ops : Array Oper) (o : Oper) : Rd (Eff × List Ask) :=
  match o.guard with
  | none => runG p sigs clean o (.bool true)
  | some (j, want) => do
    let t ← rdOpt ((ops[j]?).bind (·.dst))
    match ← rdSlot t with
    | .sc .bool (.bool b) => if b == want then runG p sigs clean o (.bool true) else .pure ({ val := .skip }, [])
    | .sc .bool e => runG p sigs clean o (if want then e else .not e)
    | .maybe g (.sc .bool e) => runG p sigs clean o (.and g (if want then e else .not e))
    | .skip => .pure ({ val := .skip }, [])
    | _ => .fail

/-- What one operation has looked at and written: slots '2t', blocks '2b+1'. -/
structure Log where
  rd : List Nat
  wr : List Nat
  deriving Repr, Inhabited

def Oper.wr (o : Oper) (upd : List (Nat × Blk)) : List Nat :=
  (match o.dst with
    | some d => [2 * d]
    | none => []) ++ upd.map fun x => 2 * x.1 + 1

def St.put (s : St) (o : Oper) (e : Eff) : St :=
  { slots := match o.dst with
      | some d => (d, e.val) :: s.slots
      | none => s.slots
    heap := putAll s.heap e.upd }

def runOps (p : Program) (sigs : Nat → Option Sig) (clean : List Nat) (nt : Nat) (ops : Array Oper) : List Oper → St → Option (St × List Ask × List Log)
  | [], s => some (s, [], [])
  | o :: r, s => match (stepRd p sigs clean ops o).run s.slot s.blk with
    | none => none
    | some ((e, a), rd) => if !(o.dst.all fun d => decide (d < nt)) then none else
      match runOps p sigs clean nt ops r (s.put o e) with
      | none => none
      | some (s', as, ls) => some (s', a ++ as, ⟨rd, Oper.wr o e.upd⟩ :: ls)

/-- Who comes ahead of each, as bits: through the edges that bind. -/
def preds : List Oper → List Nat → List Nat
  | [], acc => acc
  | o :: r, acc =>
    preds r (acc ++ [o.after.toList.foldl (fun m e => if Region.binds .any e && decide (e.on < acc.length) then m ||| (2 ^ e.on ||| acc.getD e.on 0) else m) 0])

def apartL (a b : List Nat) : Bool := a.all fun x => !b.contains x

/-- No two that may change places meet at a slot or a block that one of them writes. -/
def calm (ls : List Log) (ps : List Nat) : Bool :=
  (List.range ls.length).all fun j => (List.range j).all fun i =>
    (ps.getD j 0).testBit i ||
    (apartL (ls.getD i default).wr ((ls.getD j default).rd ++ (ls.getD j default).wr) && apartL (ls.getD j default).wr (ls.getD i default).rd)

/-- Every edge that binds leads back. -/
def edgesBack : Nat → List Oper → Bool
  | _, [] => true
  | i, o :: r => (o.after.all fun e => !Region.binds .any e || decide (e.on < i)) && edgesBack (i + 1) r

def runRegion (p : Program) (sigs : Nat → Option Sig) (clean : List Nat) (nt : Nat) (ops : Array Oper) (draw : Bool) (s : St) : Option (St × List Ask) :=
  match runOps p sigs clean nt ops ops.toList s with
  | none => none
  | some (s', as, ls) => if !draw || (calm ls (preds ops.toList []) && edgesBack 0 ops.toList) then some (s', as) else none

/-! ### Heads of loops -/

mutual
def E.shift (nv : Nat) : E → E
  | .var i => if 1000000 ≤ i then .var (i - 1000000 + nv) else .var i
  | .app f args => .app f (E.shiftL nv args)
  | e => e
def E.shiftL (nv : Nat) : List E → List E
  | [] => []
  | e :: es => e.shift nv :: E.shiftL nv es
end

mutual
def AV.shift (nv : Nat) : AV → AV
  | .sc t e => .sc t (e.shift nv)
  | .ro ts e => .ro ts (e.shift nv)
  | .part b g lo hi => .part b g (lo.shift nv) (hi.shift nv)
  | .under b g u i j ts => .under b g u (i.shift nv) j ts
  | .eptr b g i j => .eptr b g (i.shift nv) j
  | .rptr ts e i j => .rptr ts (e.shift nv) (i.shift nv) j
  | .uptr b g u i j ts k m => .uptr b g u (i.shift nv) j ts (k.shift nv) m
  | .agg l => .agg (AV.shiftL nv l)
  | .tup l => .tup (AV.shiftL nv l)
  | .maybe c a => .maybe (c.shift nv) (a.shift nv)
  | v => v
def AV.shiftL (nv : Nat) : List AV → List AV
  | [] => []
  | v :: vs => v.shift nv :: AV.shiftL nv vs
end

def Blk.shift (nv : Nat) : Blk → Blk
  | .gone g => .gone g
  | .box g cells => .box g (AV.shiftL nv cells)
  | .row g u ts e own clean live => .row g u ts (e.shift nv) own clean live

def St.shift (nv : Nat) (s : St) : St :=
  { slots := s.slots.map fun x => (x.1, x.2.shift nv), heap := s.heap.map fun x => (x.1, x.2.shift nv) }

structure Head where
  key : Nat
  vars : Nat
  st : St
  deriving Repr, Inhabited

/-- A match under way: what each variable of the head is; which name of the head is which (none: a nil slice). -/
structure Mt where
  es : List (Nat × E)
  ren : List (Nat × Option Nat)
  gone : List Nat     -- rows that are only read from here on
  deriving Repr, Inhabited

def Mt.var (m : Mt) (i : Nat) (e : E) : Option Mt :=
  match m.es.find? (fun x => x.1 == i) with
  | some (_, e') => if e'.beq e then some m else none
  | none => some { m with es := (i, e) :: m.es }

mutual
def E.closed (nv : Nat) : E → Bool
  | .var i => decide (i < nv)
  | .app _ args => E.closedL nv args
  | _ => true
def E.closedL (nv : Nat) : List E → Bool
  | [] => true
  | e :: es => e.closed nv && E.closedL nv es
end

/-- The head's expression, at the place of this one. -/
def matchE (nv : Nat) (h e : E) (m : Mt) : Option Mt :=
  match h with
  | .var i => if nv ≤ i then m.var i e else if h.beq e then some m else none
  | h => if h.beq e && h.closed nv then some m else none

def Mt.free (m : Mt) : Option Nat → Bool
  | some x => m.ren.all fun y => !(y.2 == some x)
  | none => true

def Mt.name (m : Mt) (h : Nat) (b : Option Nat) : Option Mt :=
  match m.ren.find? (fun x => x.1 == h) with
  | some (_, b') => if b' == b then some m else none
  | none => if m.free b then some { m with ren := (h, b) :: m.ren } else none

mutual
def matchAV (nv : Nat) (hb cb : Nat → Option Blk) : AV → AV → Mt → Option Mt
  | .undef, _, m => some m
  | .sc t h, .sc t' e, m => if t.beq t' then matchE nv h e m else none
  | .nil, .nil, m => some m
  | .ro ts h, .ro ts' e, m => if Ty.beqL ts ts' then matchE nv h e m else none
  | .ro _ h, .nil, m => matchE nv h .nil m
  | .orig ts i, .orig ts' i', m => if Ty.beqL ts ts' && i == i' && decide (i < nv) then some m else none
  | .ro ts h, .row b g, m => match cb b with
    | some (.row g' _ ts' e _ _ _) => if g' == g && Ty.beqL ts ts' then matchE nv h e { m with gone := b :: m.gone } else none
    | _ => none
  | .row x y, .row b g, m => match hb x, cb b with
    | some (.row gx _ _ _ _ _ _), some (.row g' _ _ _ _ _ _) => if gx == y && g' == g then m.name x (some b) else none
    | _, _ => none
  | .row x y, .nil, m => match hb x with
    | some (.row gx _ _ _ _ _ _) => if gx == y then m.name x none else none
    | _ => none
  | .part x y l h, .part b g l' h', m => match hb x, cb b with
    | some (.row gx _ _ _ _ _ _), some (.row g' _ _ _ _ _ _) => if gx == y && g' == g then
        match m.name x (some b) with
        | some m => match matchE nv l l' m with
          | some m => matchE nv h h' m
          | none => none
        | none => none
      else none
    | _, _ => none
  | .ptr x y o, .ptr b g o', m => match hb x, cb b with
    | some (.box gx _), some (.box g' _) => if gx == y && g' == g && o == o' then m.name x (some b) else none
    | _, _ => none
  | .under x y z hi j ts, .under b g u i j' ts', m => match hb x, cb b with
    | some (.row gx ux _ _ _ _ true), some (.row g' u' _ _ _ _ true) =>
      if gx == y && g' == g && ux == z && u' == u && j == j' && Ty.beqL ts ts' then
        match m.name x (some b) with
        | some m => matchE nv hi i m
        | none => none
      else none
    | _, _ => none
  | .agg a, .agg b, m => matchAVs nv hb cb a b m
  | .tup a, .tup b, m => matchAVs nv hb cb a b m
  | _, _, _ => none
def matchAVs (nv : Nat) (hb cb : Nat → Option Blk) : List AV → List AV → Mt → Option Mt
  | [], [], m => some m
  | a :: as, b :: bs, m => match matchAV nv hb cb a b m with
    | some m => matchAVs nv hb cb as bs m
    | none => none
  | _, _, _ => none
end

def matchSlots (nv : Nat) (hb cb : Nat → Option Blk) (cur : Nat → AV) : List (Nat × AV) → Mt → Option Mt
  | [], m => some m
  | (t, v) :: r, m => match matchAV nv hb cb v (cur t) m with
    | some m => matchSlots nv hb cb cur r m
    | none => none

/-- The head's blocks, in the order in which the head lists them: each must have been named by then. -/
def matchBlks (nv : Nat) (hb cb : Nat → Option Blk) : List (Nat × Blk) → Mt → Option Mt
  | [], m => some m
  | (_, .gone _) :: _, _ => none
  | (x, .box _ cells) :: r, m => match m.ren.find? (fun y => y.1 == x) with
    | some (_, some b) => match cb b with
      | some (.box _ cells') => match matchAVs nv hb cb cells cells' m with
        | some m => matchBlks nv hb cb r m
        | none => none
      | _ => none
    | _ => none
  | (x, .row _ _ ts h own clean live) :: r, m => match m.ren.find? (fun y => y.1 == x) with
    | some (_, some b) => match cb b with
      | some (.row _ _ ts' e own' clean' live') =>
        if Ty.beqL ts ts' && (!own || own') && (clean == clean') && live && live' && (!clean || own) then
          match matchE nv h e m with
          | some m => matchBlks nv hb cb r m
          | none => none
        else none
      | _ => none
    | some (_, none) => if live && (!clean || own) then
        match matchE nv h .nil m with
        | some m => matchBlks nv hb cb r m
        | none => none
      else none
    | none => none

def varsOf (nv : Nat) (es : List (Nat × E)) : Nat → Option (List E)
  | 0 => some []
  | n + 1 => match varsOf nv es n, es.find? (fun x => x.1 == nv + n) with
    | some l, some (_, e) => some (l ++ [e])
    | _, _ => none

def matchSt (fixed : List Nat) (nv vars : Nat) (head : St) (cur : St) : Option (List E) :=
  if !distinct (head.slots.map (·.1)) || !distinct (head.heap.map (·.1)) then none else
  match matchSlots nv head.blk cur.blk cur.slot head.slots ⟨[], [], []⟩ with
  | none => none
  | some m => match matchBlks nv head.blk cur.blk head.heap m with
    | none => none
    | some m => if m.gone.all (fun b => m.ren.all fun y => !(y.2 == some b)) && m.es.all (fun x => decide (x.1 < nv + vars)) &&
        fixed.all (fun x => (match m.ren.find? (fun y => y.1 == x) with
          | some (_, some b) => b == x
          | _ => false) && gen (head.blk x) == gen (cur.blk x)) then varsOf nv m.es vars else none

def firstRegion : Code → Nat
  | .region id _ _ => id
  | .seq a _ => firstRegion a
  | .block _ b => firstRegion b
  | .scope b => firstRegion b
  | .loop b => firstRegion b
  | _ => 1000000

/-! ### The run -/

structure Lv where
  len : Option Nat
  nv : Nat
  vars : Nat
  st : St
  deriving Inhabited

/-- What of a block is handed out: all; a look. -/
inductive Use where
  | whole (b : Nat)
  | view (b : Nat)
  deriving DecidableEq, Repr, Inhabited
def Use.name : Use → Nat
  | .whole b => b
  | .view b => b
def Use.ok : Use → Use → Bool
  | .view _, .view _ => true
  | x, y => x.name != y.name
def Use.free (x : Use) (l : List Use) : Bool := l.all fun y => x.ok y

/-- The names that are looked at, if nobody has been given what they name. -/
def viewUses : List Nat → List Use → Option (List Use)
  | [], used => some used
  | b :: r, used => if Use.free (.view b) used then viewUses r (.view b :: used) else none

def pushE (e : E) : Option (List E × List Use) → Option (List E × List Use)
  | some (es, used) => some (e :: es, used)
  | none => none

/-- The results of a return: each cell's data, its own rows at the end; nobody's twice. 'i': the number of the first cell, of those that came in a box. -/
def retCells (blk : Nat → Option Blk) : Nat → List (Ty × Rm) → List AV → List Use → Option (List E × List Use)
  | _, [], [], used => some ([], used)
  | i, (.sl ts, .top) :: r, v :: s, used => match v with
    | .nil => pushE .nil (retCells blk (i + 1) r s used)
    | .row b g => match blk b with
      | some (.row g' _ ts' e _ _ true) => if g' == g && Ty.beqL ts' ts && Use.free (.whole b) used then pushE e (retCells blk (i + 1) r s (.whole b :: used)) else none
      | _ => none
    | _ => none
  | i, (.sl ts, .own) :: r, v :: s, used => match v with
    | .nil => pushE .nil (retCells blk (i + 1) r s used)
    | .row b g => match blk b with
      | some (.row g' _ ts' e true _ true) => if g' == g && Ty.beqL ts' ts && Use.free (.whole b) used then pushE e (retCells blk (i + 1) r s (.whole b :: used)) else none
      | _ => none
    | _ => none
  | i, (.sl ts, .kept) :: r, v :: s, used => match v with
    | .orig ts' k => if Ty.beqL ts' ts && k == i then pushE (.var i) (retCells blk (i + 1) r s used) else none
    | _ => none
  | i, (t, _) :: r, v :: s, used => match (viewCell t v).val (fun _ => .undef) blk, v.names.val (fun _ => .undef) blk with
    | some e, some ns => match viewUses ns used with
      | some used => pushE e (retCells blk (i + 1) r s used)
      | none => none
    | _, _ => none
  | _, _, _, _ => none

def aggShape (agg : Bool) : Shape := if agg then .agg else .one

/-- The cells of one result. -/
def retOne (p : Program) (slot : Nat → AV) (blk : Nat → Option Blk) (k : RK) (used : List Use) : ResultVar → Option (List AV × List Use)
  | .tmp t => match k.shape, slot t with
    | .agg, .agg l => some (l, used)
    | .one, .agg _ => none
    | .one, v => some ([v], used)
    | .ptr, .ptr b g 0 => match blk b with
      | some (.box g' cells) => if g' == g && Use.free (.whole b) used then some (cells, .whole b :: used) else none
      | _ => none
    | _, _ => none
  | .cell a t => match slot a, tyOf p t, aggOf p t with
    | .ptr b g 0, some ts, some agg => match blk b with
      | some (.box g' cells) =>
        if g' == g && ts.length == cells.length && decide (k.shape = aggShape agg) && (agg || ts.length == 1) then some (cells, used) else none
      | _ => none
    | _, _, _ => none

def retVals (p : Program) (slot : Nat → AV) (blk : Nat → Option Blk) : List ResultVar → List RK → List Use → Option (List E × List Use)
  | [], [], used => some ([], used)
  | x :: r, k :: ks, used => match retOne p slot blk k used x with
    | none => none
    | some (cs, used) => match retCells blk 0 k.ts cs used with
      | some (es, used) => match retVals p slot blk r ks used with
        | some (es', used) => some (es ++ es', used)
        | none => none
      | none => none
  | _, _, _ => none

/-- The rows that came in to be written into: 'b': the name of the first cell's. -/
def retWr (blk : Nat → Option Blk) : Nat → List (Ty × Md) → List Use → Option (List E × List Use)
  | _, [], used => some ([], used)
  | b, (.sl ts, .wr) :: r, used => match blk b with
    | some (.row 0 _ ts' e true _ true) =>
      if Ty.beqL ts' ts && Use.free (.whole b) used then
        pushE e (retWr blk (b + 1) r (.whole b :: used))
      else none
    | _ => none
  | b, _ :: r, used => retWr blk (b + 1) r used

def retParams (blk : Nat → Option Blk) : Nat → Nat → List PK → List Use → Option (List E × List Use)
  | _, _, [], used => some ([], used)
  | t, i, .val ts _ :: r, used => match retWr blk (nm t 0) ts used with
    | some (es, used) => match retParams blk (t + 1) (i + ts.length) r used with
      | some (es', used) => some (es ++ es', used)
      | none => none
    | none => none
  | t, i, .box ts :: r, used => if !Use.free (.whole (nm t 63)) used then none else match blk (nm t 63) with
    | some (.box 0 cells) => match retCells blk i ts cells (.whole (nm t 63) :: used) with
      | some (es, used) => match retParams blk (t + 1) (i + ts.length) r used with
        | some (es', used) => some (es ++ es', used)
        | none => none
      | none => none
    | _ => none

/-- The names that have to stand at the end. -/
def fixVal : Nat → List (Ty × Md) → List Nat
  | _, [] => []
  | b, (.sl _, .wr) :: r => b :: fixVal (b + 1) r
  | b, _ :: r => fixVal (b + 1) r
def fixNames : Nat → List PK → List Nat
  | _, [] => []
  | t, .val ts _ :: r => fixVal (nm t 0) ts ++ fixNames (t + 1) r
  | t, .box _ :: r => nm t 63 :: fixNames (t + 1) r

structure Fn where
  nt : Nat
  results : List ResultVar
  sig : Sig
  heads : List Head
  peel : List Nat
  clean : List Nat

def retT (p : Program) (fn : Fn) (s : St) : T :=
  match retVals p s.slot s.blk fn.results fn.sig.res [] with
  | none => .no 1
  | some (es, used) => match retParams s.blk 0 0 fn.sig.params used with
    | none => .no 2
    | some (es', _) => .ret (es ++ es')

def findLv (len : Nat) : Nat → List Lv → Option (Nat × Lv)
  | _, [] => none
  | i, l :: r => if l.len == some len then some (i, l) else findLv len (i + 1) r
/-- Loops that have been left. -/
def leave (n : Nat) (lv : List Lv) : List Lv := lv.map fun l => match l.len with
  | some m => if m < n then l else { l with len := none }
  | none => l

def sym (p : Program) (sigs : Nat → Option Sig) (fn : Fn) : Nat → Nat → List Lv → List Item → St → T
  | 0, _, _, _, _ => .no 0
  | n + 1, nv, lv, todo, s =>
    let head (c : Code) (k : List Item) : T := match fn.heads.find? (fun h => h.key == firstRegion c) with
      | none => .no 3
      | some h => match matchSt (fixNames 0 fn.sig.params) nv h.vars (h.st.shift nv) s with
        | none => .no 4
        | some es => .loop nv es (sym p sigs fn n (nv + h.vars) (⟨some k.length, nv, h.vars, h.st.shift nv⟩ :: lv) (.code c :: .inLoop c :: k) (h.st.shift nv))
    match todo with
    | [] => retT p fn s
    | .code c :: k => match c with
      | .skip => sym p sigs fn n nv lv k s
      | .label _ => sym p sigs fn n nv lv k s
      | .ret => retT p fn s
      | .seq x y => sym p sigs fn n nv lv (.code x :: .code y :: k) s
      | .block id c => sym p sigs fn n nv lv (.code c :: .inBlock id :: k) s
      | .exit id => match exitTo id k with
        | some k' => sym p sigs fn n nv (leave k'.length lv) k' s
        | none => .no 5
      | .cond c x y => match (evalO c).run s.slot s.blk with
        | some (.sc .bool (.bool b), _) => sym p sigs fn n nv lv (.code (if b then x else y) :: k) s
        | some (.sc .bool e, _) => .ite e (sym p sigs fn n nv lv (.code x :: k) s) (sym p sigs fn n nv lv (.code y :: k) s)
        | _ => .no 6
      | .region _ ops draw => match runRegion p sigs fn.clean fn.nt ops draw s with
        | some (s', as) => T.wrap as (sym p sigs fn n nv lv k s')
        | none => .no 7
      | .loop c => if fn.peel.contains (firstRegion c) then sym p sigs fn n nv lv (.code c :: .inLoop c :: k) s else head c k
      | _ => .no 8
    | .inBlock _ :: k => sym p sigs fn n nv lv k s
    | .inLoop c :: k => match findLv k.length 0 lv with
      | none => head c k
      | some (i, l) => match matchSt (fixNames 0 fn.sig.params) l.nv l.vars l.st s with
        | some es => .again i es
        | none => .no 9
    | _ => .no 10

/-- How the parameters lie at first: values from the variables on; behind each pointer a box. -/
def startBox : Nat → List (Ty × Rm) → Nat → List AV × List (Nat × Blk)
  | _, [], _ => ([], [])
  | i, (.sl ts, .own) :: r, b =>
    let (vs, us) := startBox (i + 1) r (b + 1)
    (.row b 0 :: vs, (b, .row 0 0 ts (.var i) true false true) :: us)
  | i, (.sl ts, .kept) :: r, b =>
    let (vs, us) := startBox (i + 1) r (b + 1)
    (.orig ts i :: vs, us)
  | i, (.sl ts, _) :: r, b =>
    let (vs, us) := startBox (i + 1) r (b + 1)
    (.ro ts (.var i) :: vs, us)
  | i, (t, _) :: r, b =>
    let (vs, us) := startBox (i + 1) r (b + 1)
    (.sc t (.var i) :: vs, us)

def startVal : Nat → List (Ty × Md) → Nat → List AV × List (Nat × Blk)
  | _, [], _ => ([], [])
  | i, (.sl ts, .ro) :: r, b =>
    let (vs, us) := startVal (i + 1) r (b + 1)
    (.ro ts (.var i) :: vs, us)
  | i, (.sl ts, m) :: r, b =>
    let (vs, us) := startVal (i + 1) r (b + 1)
    (.row b 0 :: vs, (b, .row 0 0 ts (.var i) true (decide (m = .wr)) true) :: us)
  | i, (t, _) :: r, b =>
    let (vs, us) := startVal (i + 1) r (b + 1)
    (.sc t (.var i) :: vs, us)

def start : Nat → Nat → List PK → St × Nat
  | _, i, [] => (⟨[], []⟩, i)
  | t, i, .val ts agg :: r =>
    let (s, n) := start (t + 1) (i + ts.length) r
    let (vs, us) := startVal i ts (nm t 0)
    (⟨(t, if agg then .agg vs else vs.headD .undef) :: s.slots, us ++ s.heap⟩, n)
  | t, i, .box ts :: r =>
    let (s, n) := start (t + 1) (i + ts.length) r
    let (vs, us) := startBox i ts (nm t 0)
    (⟨(t, .ptr (nm t 63) 0 0) :: s.slots, (nm t 63, .box 0 vs) :: us ++ s.heap⟩, n)

def symFn (p : Program) (sigs : Nat → Option Sig) (f : Func) (sig : Sig) (heads : List Head) (peel clean : List Nat) (fuel : Nat) : T :=
  let (s, n) := start 0 0 sig.params
  match f.body with
  | some c => if sigOk sig && decide (sig.params.length ≤ f.ntmps) then sym p sigs ⟨f.ntmps, f.results.toList, sig, heads, peel, clean⟩ fuel n [] [.code c] s else .no 12
  | none => .no 11

end Go.Sx
