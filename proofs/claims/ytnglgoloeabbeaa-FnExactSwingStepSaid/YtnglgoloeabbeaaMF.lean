/-
  The machine, part F: the operations that leave the memory alone.
-/
import Derived.Test.YtnglgoloeabbeaaME
import Derived.Laws.StructEq
namespace Go.Sx
open Go Go.RowKit
set_option linter.unusedSimpArgs false
set_option linter.unusedVariables false

def NeedOk (pre : Nat → List D → Prop) (c : Ctx) : Need → Prop
  | .e x => (c.den x).b = true
  | .ask f args => pre f (denL c.Γ c.ρ args)

def updHp (hp : Nat → Option Blk) : List (Nat × Blk) → Nat → Option Blk
  | [] => hp
  | (b, x) :: r => updHp (fun i => if i = b then some x else hp i) r

/-- What an operation has come to. -/
structure EffOk (c : Ctx) (e : Eff) (c' : Ctx) (v : Value) : Prop where
  hp : c'.hp = updHp c.hp e.upd
  step : Step c c' (e.upd.map (·.1))
  val : AVOk c' e.val v
  blks : ∀ b ∈ e.upd.map (·.1), ∀ x, c'.hp b = some x → BlkOk c' x (c'.L b)
  accs : ∀ b ∈ e.upd.map (·.1), ∀ x', c'.hp b = some x' → ∀ k ∈ acc x' (c'.L b), c.w.heap.size ≤ k ∨ ∃ b0 ∈ e.upd.map (·.1), ∃ x, c.hp b0 = some x ∧ k ∈ acc x (c.L b0)
  disj : ∀ b b' x x', b ∈ e.upd.map (·.1) → b' ∈ e.upd.map (·.1) → b ≠ b' → c'.hp b = some x → c'.hp b' = some x' → ∀ k ∈ acc x (c'.L b), k ∉ acc x' (c'.L b')
  frame : c'.w.os = c.w.os ∧ c'.w.tape = c.w.tape ∧ c'.w.output = c.w.output

/-- The operation does this. -/
def Does (P : Program) (o : Oper) (a : Act) (c : Ctx) (e : Eff) : Prop :=
  ∀ (next : Act → World → Prop) (Q : Exit → Act → World → Prop), (∀ v c', EffOk c e c' v → next (a.put o.dst v) c'.w) → o.wp P a c.w next Q

theorem EffOk.still {c : Ctx} {x : AV} {n : List Need} {v : Value} (h : AVOk c x v) : EffOk c { val := x, need := n } c v where
  hp := rfl
  step := Step.refl c
  val := h
  blks := fun b hb => nomatch hb
  accs := fun b hb => nomatch hb
  disj := fun b b' x x' hb => nomatch hb
  frame := ⟨rfl, rfl, rfl⟩

@[simp] theorem D.b_bool (b : Bool) : (D.bool b).b = b := rfl
@[simp] theorem D.i_int (n : Int) : (D.int n).i = n := rfl
@[simp] theorem D.s_str (l : List UInt8) : (D.str l).s = l := rfl
@[simp] theorem D.l_sl (l : List (List D)) : (D.sl l).l = l := rfl

section
variable {P : Program} {c : Ctx} {sl : Nat → AV} {a : Act} {B : Base} {o : Oper}

theorem does_value {e : Eff} {v : Value} {c' : Ctx} (hr : (execOp a.eval o).run P c.w = .ok (.value v) c'.w) (he : EffOk c e c' v) : Does P o a c e := by
  intro next Q h
  unfold Oper.wp
  rw [hr]
  exact h v c' he

theorem does_skip {e : Eff} {c' : Ctx} (hr : (execOp a.eval o).run P c.w = .ok .skip c'.w) (he : EffOk c e c' Go.undef) : Does P o a c e := by
  intro next Q h
  unfold Oper.wp
  rw [hr]
  exact h _ c' he

theorem does_still {x : AV} {n : List Need} {v : Value} (hr : (execOp a.eval o).run P c.w = .ok (.value v) c.w) (he : AVOk c x v) : Does P o a c { val := x, need := n } :=
  does_value hr (EffOk.still he)

/-! ### Scalars -/

theorem sc_int {k : IntKind} {e : E} {v : Value} (h : AVOk c (.sc (.int k) e) v) : ∃ n, v = .int k n ∧ c.den e = .int n ∧ inR k n = true := by
  have := h.2
  cases hd : c.den e <;> rw [hd] at this <;> cases this
  exact ⟨_, rfl, rfl, by assumption⟩
theorem sc_bool {e : E} {v : Value} (h : AVOk c (.sc .bool e) v) : ∃ b, v = .bool b ∧ c.den e = .bool b := by
  have := h.2
  cases hd : c.den e <;> rw [hd] at this <;> cases this
  exact ⟨_, rfl, rfl⟩
theorem sc_str {e : E} {v : Value} (h : AVOk c (.sc .str e) v) : ∃ s : ByteArray, v = .string s ∧ c.den e = .str s.data.toList ∧ s.size < 9223372036854775808 := by
  have := h.2
  cases hd : c.den e <;> rw [hd] at this <;> cases this
  exact ⟨_, rfl, rfl, by assumption⟩
theorem sc_err {e : E} {v : Value} (h : AVOk c (.sc .err e) v) : (v = .nilIface ∧ c.den e = .bool false) ∨ (∃ t x, v = .iface t x ∧ c.den e = .bool true) := by
  have := h.2
  cases hd : c.den e <;> rw [hd] at this <;> cases this
  · exact .inl ⟨rfl, rfl⟩
  · exact .inr ⟨_, _, rfl, rfl⟩

theorem ok_int {k : IntKind} {e : E} {n : Int} (h : c.den e = .int n) (hr : inR k n = true) : AVOk c (.sc (.int k) e) (.int k n) := ⟨rfl, by rw [h]; exact .int hr⟩
theorem ok_bool {e : E} {b : Bool} (h : c.den e = .bool b) : AVOk c (.sc .bool e) (.bool b) := ⟨rfl, by rw [h]; exact .bool⟩
theorem ok_str {e : E} {s : ByteArray} (h : c.den e = .str s.data.toList) (hs : s.size < 9223372036854775808) : AVOk c (.sc .str e) (.string s) := ⟨rfl, by rw [h]; exact .str hs⟩

theorem inR_wrap (k : IntKind) (n : Int) : inR k (k.wrap n) = true := by
  rw [inR_iff]
  cases k <;> simp only [IntKind.wrap, IntKind.min, IntKind.max, IntKind.bits, IntKind.signed] <;> simp <;> (try split) <;> omega

theorem move_ok (s : Sim B c sl a) {g : E} (hg : (c.den g).b = true) {x : Operand} (ho : o.op = .move x ∨ o.op = .assign x) {y : AV} (h : (evalG g x).val sl c.hp = some y) : Does P o a c { val := y } :=
  does_still (v := a.eval x) (by rcases ho with ho | ho <;> simp [execOp, ho]) (evalG_ok s hg h)

theorem bin_int {k : IntKind} {op : BinOp} {t : TypeId} {x y : Int} {v : Value} {w : World}
    (h : (match op with
      | .shl | .shr => Op.shift op k x k y
      | .add | .sub | .mul => Op.intArith op k x y
      | .quo | .rem => Op.intDiv op k x y
      | .and | .or | .xor | .andNot => Op.intBits op k x y
      | _ => Op.intCmp op x y).run P w = .ok v w) : (binOp op t (.int k x) (.int k y)).run P w = .ok v w := by
  cases op <;> simpa [binOp] using h

theorem bin_run {op : BinOp} {t yt : TypeId} {x y : Operand} {v : Value} (ho : o.op = .binOp op t x y yt) (h : (binOp op t (a.eval x) (a.eval y)).run P c.w = .ok v c.w)
    (hg : (eqGuard op t x y (a.eval x) (a.eval y)).run P c.w = .ok () c.w) : (execOp a.eval o).run P c.w = .ok (.value v) c.w := by
  simp [execOp, ho, hg, h]

theorem guard_int {op : BinOp} {t : TypeId} {x y : Operand} {k k' : IntKind} {m n : Int} {w : World} : (eqGuard op t x y (.int k m) (.int k' n)).run P w = .ok () w := by
  unfold eqGuard; split <;> simp
theorem guard_bool {op : BinOp} {t : TypeId} {x y : Operand} {m n : Bool} {w : World} : (eqGuard op t x y (.bool m) (.bool n)).run P w = .ok () w := by
  unfold eqGuard; split <;> simp
theorem guard_str {op : BinOp} {t : TypeId} {x y : Operand} {m n : ByteArray} {w : World} : (eqGuard op t x y (.string m) (.string n)).run P w = .ok () w := by
  unfold eqGuard; split <;> simp

theorem den1 {f : F} {x : E} : c.den (.app f [x]) = evalF c.Γ f [c.den x] := rfl
theorem den2 {f : F} {x y : E} : c.den (.app f [x, y]) = evalF c.Γ f [c.den x, c.den y] := rfl
theorem den3 {f : F} {x y z : E} : c.den (.app f [x, y, z]) = evalF c.Γ f [c.den x, c.den y, c.den z] := rfl
theorem denI {n : Int} : c.den (.int n) = .int n := rfl
theorem denB {b : Bool} : c.den (.bool b) = .bool b := rfl

theorem emod_le {x y : Int} (h : 0 ≤ x) (hy : 0 < y) : x % y ≤ x := by
  rw [Int.emod_def]
  have := Int.mul_nonneg (Int.le_of_lt hy) (Int.ediv_nonneg h (Int.le_of_lt hy))
  omega

theorem tdiv_in {k : IntKind} {x y : Int} (hx : inR k x = true) (hy : y ≠ 0) : inR k (x.tmod y) = true := by
  rw [inR_iff] at *
  have h0 : k.min ≤ 0 := by cases k <;> simp [IntKind.min, IntKind.signed, IntKind.bits]
  have h1 : (0 : Int) ≤ k.max := by cases k <;> simp [IntKind.max, IntKind.signed, IntKind.bits]
  rcases Int.le_total 0 x with h | h
  · have a1 := Int.tmod_nonneg y h
    have a2 : x.tmod y ≤ x := by
      rcases Int.le_total 0 y with hy' | hy'
      · rw [Int.tmod_eq_emod_of_nonneg h]; exact emod_le h (by omega)
      · rw [← Int.tmod_neg, Int.tmod_eq_emod_of_nonneg h]; exact emod_le h (by omega)
    omega
  · have e : x.tmod y = - ((-x).tmod y) := by rw [Int.neg_tmod]; omega
    have a1 := Int.tmod_nonneg y (show 0 ≤ -x by omega)
    have a2 : (-x).tmod y ≤ -x := by
      rcases Int.le_total 0 y with hy' | hy'
      · rw [Int.tmod_eq_emod_of_nonneg (by omega)]; exact emod_le (by omega) (by omega)
      · rw [← Int.tmod_neg, Int.tmod_eq_emod_of_nonneg (by omega)]; exact emod_le (by omega) (by omega)
    omega


/-- A two-sided operation: what it comes to. -/
def BinOk (P : Program) (c : Ctx) (t : TypeId) (op : BinOp) (vx vy : Value) (e : Eff) : Prop :=
  e.upd = [] ∧ (∃ v, (binOp op t vx vy).run P c.w = .ok v c.w ∧ AVOk c e.val v) ∧ ∀ (x y : Operand), (eqGuard op t x y vx vy).run P c.w = .ok () c.w

theorem decide_congr {p q : Prop} [Decidable p] [Decidable q] (h : p ↔ q) : decide p = decide q := by
  by_cases hp : p <;> simp [hp, h.1, ← h]

theorem binEff_ok {bt : Bool} {op : BinOp} {x y : AV} {vx vy : Value} (hx : AVOk c x vx) (hy : AVOk c y vy) {e : Eff} {pre : Nat → List D → Prop} {sl0 : Nat → AV} {hp0 : Nat → Option Blk}
    {t0 : TypeId} (hbt : bt = true → P.underlying t0 = some .bool) (h : (binEff bt op x y).val sl0 hp0 = some e) (hn : ∀ n ∈ e.need, NeedOk pre c n) : BinOk P c t0 op vx vy e := by
  unfold binEff at h
  split at h
  · rename_i k ex k' ey
    obtain ⟨m, rfl, dx, rx⟩ := sc_int hx
    obtain ⟨n, rfl, dy, ry⟩ := sc_int hy
    split at h
    · simp at h; subst h
      have h0 := hn _ (List.mem_singleton.2 rfl)
      simp only [NeedOk, E.le, den2, denI, dy, evalF, D.b, D.i, decide_eq_true_eq] at h0
      refine ⟨rfl, ⟨.int k (k.wrap (m * 2 ^ min n.toNat k.bits)), ?_, ok_int (by simp [den2, dx, dy, evalF, D.i]) (inR_wrap _ _)⟩, fun x y => guard_int⟩
      have : ¬ n < 0 := by omega
      simp [binOp, Op.shift, this]
    · simp at h; subst h
      have h0 := hn _ (List.mem_singleton.2 rfl)
      simp only [NeedOk, E.le, den2, denI, dy, evalF, D.b, D.i, decide_eq_true_eq] at h0
      refine ⟨rfl, ⟨.int k (m.fdiv (2 ^ (min n.toNat k.bits))), ?_, ok_int (by simp [den2, dx, dy, evalF, D.i]) ?_⟩, fun x y => guard_int⟩
      · have : ¬ n < 0 := by omega
        simp [binOp, Op.shift, this]
      · rw [inR_iff] at *
        have h1 : k.min ≤ 0 := by cases k <;> simp [IntKind.min, IntKind.signed, IntKind.bits]
        have h2 : (0 : Int) ≤ k.max := by cases k <;> simp [IntKind.max, IntKind.signed, IntKind.bits]
        have hp : (0 : Int) < 2 ^ (min n.toNat k.bits) := Int.pow_pos (by omega)
        rw [Int.fdiv_eq_ediv_of_nonneg _ (Int.le_of_lt hp)]
        generalize (2 : Int) ^ (min n.toNat k.bits) = q at *
        rcases Int.le_total 0 m with hm | hm
        · have a1 := Int.ediv_nonneg hm (Int.le_of_lt hp)
          have a2 : m / q ≤ m := Int.ediv_le_self q hm
          omega
        · have a1 : m / q ≤ 0 := by
            have := Int.ediv_le_ediv hp hm
            simpa using this
          have a2 : m ≤ m / q := by
            rw [Int.le_ediv_iff_mul_le hp]
            have h1 : m * q ≤ m * 1 := Int.mul_le_mul_of_nonpos_left hm (by omega)
            omega
          omega
    · split at h
      · rename_i hk
        subst hk
        split at h <;> simp at h
        · subst h
          exact ⟨rfl, ⟨.int k (k.wrap (m + n)), by simp [binOp, Op.intArith], ok_int (by simp [den2, dx, dy, evalF, D.i]) (inR_wrap _ _)⟩, fun x y => guard_int⟩
        · subst h
          exact ⟨rfl, ⟨.int k (k.wrap (m - n)), by simp [binOp, Op.intArith], ok_int (by simp [den2, dx, dy, evalF, D.i]) (inR_wrap _ _)⟩, fun x y => guard_int⟩
        · subst h
          exact ⟨rfl, ⟨.int k (k.wrap (m * n)), by simp [binOp, Op.intArith], ok_int (by simp [den2, dx, dy, evalF, D.i]) (inR_wrap _ _)⟩, fun x y => guard_int⟩
        · subst h
          have h0 := hn _ (List.mem_singleton.2 rfl)
          simp [NeedOk, E.not, den1, den2, denI, dy, evalF, D.b, D.i] at h0
          exact ⟨rfl, ⟨.int k (k.wrap (m.tdiv n)), by simp [binOp, Op.intDiv, h0], ok_int (by simp [den2, dx, dy, evalF, D.i]) (inR_wrap _ _)⟩, fun x y => guard_int⟩
        · subst h
          have h0 := hn _ (List.mem_singleton.2 rfl)
          simp [NeedOk, E.not, den1, den2, denI, dy, evalF, D.b, D.i] at h0
          exact ⟨rfl, ⟨.int k (m.tmod n), by simp [binOp, Op.intDiv, h0], ok_int (by simp [den2, dx, dy, evalF, D.i]) (tdiv_in rx h0)⟩, fun x y => guard_int⟩
        · subst h
          exact ⟨rfl, ⟨.int k (k.wrap (BitVec.ofInt k.bits m &&& BitVec.ofInt k.bits n).toNat), by simp [binOp, Op.intBits], ok_int (by simp [den2, dx, dy, evalF, D.i]) (inR_wrap _ _)⟩, fun x y => guard_int⟩
        · subst h
          exact ⟨rfl, ⟨.int k (k.wrap (BitVec.ofInt k.bits m ||| BitVec.ofInt k.bits n).toNat), by simp [binOp, Op.intBits], ok_int (by simp [den2, dx, dy, evalF, D.i]) (inR_wrap _ _)⟩, fun x y => guard_int⟩
        · subst h
          exact ⟨rfl, ⟨.int k (k.wrap (BitVec.ofInt k.bits m ^^^ BitVec.ofInt k.bits n).toNat), by simp [binOp, Op.intBits], ok_int (by simp [den2, dx, dy, evalF, D.i]) (inR_wrap _ _)⟩, fun x y => guard_int⟩
        · subst h
          exact ⟨rfl, ⟨.bool (decide (m < n)), by simp [binOp, Op.intCmp], ok_bool (by simp [E.lt, den2, dx, dy, evalF, D.i])⟩, fun x y => guard_int⟩
        · subst h
          exact ⟨rfl, ⟨.bool (decide (m ≤ n)), by simp [binOp, Op.intCmp], ok_bool (by simp [E.le, den2, dx, dy, evalF, D.i])⟩, fun x y => guard_int⟩
        · subst h
          exact ⟨rfl, ⟨.bool (decide (n < m)), by simp [binOp, Op.intCmp], ok_bool (by simp [E.lt, den2, dx, dy, evalF, D.i])⟩, fun x y => guard_int⟩
        · subst h
          exact ⟨rfl, ⟨.bool (decide (n ≤ m)), by simp [binOp, Op.intCmp], ok_bool (by simp [E.le, den2, dx, dy, evalF, D.i])⟩, fun x y => guard_int⟩
        · subst h
          exact ⟨rfl, ⟨.bool (m == n), by simp [binOp, Op.intCmp], ok_bool (by simp [den2, dx, dy, evalF, D.i])⟩, fun x y => guard_int⟩
        · subst h
          exact ⟨rfl, ⟨.bool (m != n), by simp [binOp, Op.intCmp], ok_bool (by simp [E.not, den1, den2, dx, dy, evalF, D.i, D.b, bne])⟩, fun x y => guard_int⟩
      · simp at h
  · rename_i ex ey
    obtain ⟨m, rfl, dx⟩ := sc_bool hx
    obtain ⟨n, rfl, dy⟩ := sc_bool hy
    split at h
    · simp at h
    rename_i hb
    have hb' := hbt (by simpa using hb)
    split at h <;> simp at h
    · subst h
      exact ⟨rfl, ⟨.bool (m == n), by simp [binOp, Op.equal, Op.maxDepth, run_equalIn_bool' (P := P) c.w _ _ _ _ hb'], ok_bool (by simp [den2, dx, dy, evalF, D.b])⟩, fun x y => guard_bool⟩
    · subst h
      exact ⟨rfl, ⟨.bool (!(m == n)), by simp [binOp, Op.equal, Op.maxDepth, run_equalIn_bool' (P := P) c.w _ _ _ _ hb'], ok_bool (by simp [E.not, den1, den2, dx, dy, evalF, D.b])⟩, fun x y => guard_bool⟩
  · rename_i ex ey
    obtain ⟨m, rfl, dx, sx⟩ := sc_str hx
    obtain ⟨n, rfl, dy, sy⟩ := sc_str hy
    split at h <;> simp at h
    · subst h
      exact ⟨rfl, ⟨.bool (m.data.toList == n.data.toList), by simp [binOp, Op.stringOp, ByteArray.toList_eq], ok_bool (by simp [den2, dx, dy, evalF, D.s, ByteArray.toList_eq])⟩, fun x y => guard_str⟩
    · subst h
      exact ⟨rfl, ⟨.bool (!(m.data.toList == n.data.toList)), by simp [binOp, Op.stringOp, ByteArray.toList_eq], ok_bool (by simp [E.not, den1, den2, dx, dy, evalF, D.s, D.b, ByteArray.toList_eq])⟩, fun x y => guard_str⟩
    · subst h
      have h0 := hn _ (List.mem_singleton.2 rfl)
      simp [NeedOk, E.le, den1, den2, denI, dx, dy, evalF, D.b, D.i, D.s] at h0
      have h1 : m.size + n.size ≤ 9223372036854775807 := by
        simp only [← ByteArray.size_data] at *
        omega
      refine ⟨rfl, ⟨.string (m ++ n), ?_, ok_str ?_ ?_⟩, fun x y => guard_str⟩
      · have h2 : ¬ (IntKind.i64.max < ((m.size : Int) + (n.size : Int))) := by simp [IntKind.max, IntKind.signed, IntKind.bits]; omega
        simp [binOp, Op.stringOp, h2]
        omega
      · simp [den2, dx, dy, evalF, D.s]
      · simp; omega
  · simp at h

theorem eq_nil_nil {d : Nat} {t : TypeId} {ms : Array (String × TypeId)} (hu : P.underlying t = some (.interface ms)) (w : World) : (Op.equalIn (d + 1) t .nilIface .nilIface).run P w = .ok true w := by
  simp [Op.equalIn, run_underlying hu]
theorem eq_iface_nil {d : Nat} {t : TypeId} {ms : Array (String × TypeId)} (hu : P.underlying t = some (.interface ms)) (w : World) (u : TypeId) (x : Value) : (Op.equalIn (d + 1) t (.iface u x) .nilIface).run P w = .ok false w := by
  simp [Op.equalIn, run_underlying hu]
theorem equal_nil_nil {t : TypeId} {ms : Array (String × TypeId)} (hu : P.underlying t = some (.interface ms)) (w : World) : (Op.equal t .nilIface .nilIface).run P w = .ok true w := eq_nil_nil (d := 9999) hu w
theorem equal_iface_nil {t : TypeId} {ms : Array (String × TypeId)} (hu : P.underlying t = some (.interface ms)) (w : World) (u : TypeId) (x : Value) : (Op.equal t (.iface u x) .nilIface).run P w = .ok false w := eq_iface_nil (d := 9999) hu w u x

theorem binOp_ok (s : Sim B c sl a) {sigs : Nat → Option Sig} {clean : List Nat} {g : E} (hg : (c.den g).b = true) {op : BinOp} {t yt : TypeId} {x y : Operand} (ho : o.op = .binOp op t x y yt) {e : Eff}
    {pre : Nat → List D → Prop} (h : (opEff P sigs clean g o).val sl c.hp = some e) (hn : ∀ n ∈ e.need, NeedOk pre c n) : Does P o a c e := by
  simp only [opEff, ho, Rd.val_bind] at h
  replace h := bind_some h; obtain ⟨ax, hx, h⟩ := h
  replace h := bind_some h; obtain ⟨ay, hy, h⟩ := h
  have vx := evalG_ok s hg hx
  have vy := evalG_ok s hg hy
  split at h
  · rename_i xs ys
    obtain ⟨xv, ex, okx⟩ := vx
    obtain ⟨yv, ey, oky⟩ := vy
    simp only [Rd.val_bind, Rd.val_opt] at h
    replace h := bind_some h; obtain ⟨fs, hfs, h⟩ := h
    split at hfs <;> simp at hfs
    rename_i fs' hu
    subst hfs
    simp only [Rd.if_bind, Bool.and_eq_true, Bool.not_eq_true'] at h
    obtain ⟨⟨hst, hgd⟩, h⟩ := h
    replace h := bind_some h; obtain ⟨er, her, h⟩ := h
    have hlen : ∀ (l : List AV) (vs : List Value), AVsOk c l vs → ∀ (i : Nat) (v : AV), l[i]? = some v → ∃ u, vs[i]? = some u ∧ AVOk c v u := by
      intro l
      induction l with
      | nil => intro vs _ i v hi; simp at hi
      | cons b bs ih =>
        intro vs hv i v hi
        cases vs with
        | nil => exact hv.elim
        | cons u us =>
          cases i with
          | zero => simp at hi; subst hi; exact ⟨u, rfl, hv.1⟩
          | succ i => simp at hi; obtain ⟨u', h1, h2⟩ := ih us hv.2 i v hi; exact ⟨u', by simpa using h1, h2⟩
    have key : ∀ (l : List Field) (r : E), eqCells P l xs ys = some r → ∃ q : Bool, c.den r = .bool q ∧ ∀ d, (Op.eqFields (d + 1) xv.toArray yv.toArray l).run P c.w = .ok q c.w := by
      intro l
      induction l with
      | nil => intro r hr; simp [eqCells] at hr; subst hr; exact ⟨true, rfl, fun d => by simp [Op.eqFields]⟩
      | cons f l ih =>
        intro r hr
        unfold eqCells at hr
        split at hr
        · rename_i k0 k1 e1 k2 e2 hf h1 h2
          split at hr
          · rename_i hk
            obtain ⟨rfl, hname⟩ := hk
            simp only [Option.map_eq_some_iff] at hr
            obtain ⟨r', hr', rfl⟩ := hr
            obtain ⟨q, hq, hrun⟩ := ih r' hr'
            obtain ⟨u1, a1, b1⟩ := hlen _ _ okx _ _ h1
            obtain ⟨u2, a2, b2⟩ := hlen _ _ oky _ _ h2
            obtain ⟨m, rfl, dm, _⟩ := sc_int b1
            obtain ⟨n, rfl, dn, _⟩ := sc_int b2
            refine ⟨(m == n) && q, by simp [E.and, den2, dm, dn, hq, evalF, D.i, D.b], fun d => ?_⟩
            simp only [Op.eqFields, if_pos hname, Sem.run_bind]
            simp [part, isAgg, run_underlying hf, a1, a2, run_equalIn_int c.w _ _ _ _ _ _ hf, hrun d]
            by_cases hmn : m = n <;> simp [hmn]
          · simp at hr
        · rename_i e1 e2 hf h1 h2
          split at hr
          · rename_i hname
            simp only [Option.map_eq_some_iff] at hr
            obtain ⟨r', hr', rfl⟩ := hr
            obtain ⟨q, hq, hrun⟩ := ih r' hr'
            obtain ⟨u1, a1, b1⟩ := hlen _ _ okx _ _ h1
            obtain ⟨u2, a2, b2⟩ := hlen _ _ oky _ _ h2
            obtain ⟨m, rfl, dm⟩ := sc_bool b1
            obtain ⟨n, rfl, dn⟩ := sc_bool b2
            refine ⟨(m == n) && q, by simp [E.and, den2, dm, dn, hq, evalF, D.i, D.b], fun d => ?_⟩
            simp only [Op.eqFields, if_pos hname, Sem.run_bind]
            simp [part, isAgg, run_underlying hf, a1, a2, run_equalIn_bool' c.w _ _ _ _ hf, hrun d]
            by_cases hmn : m = n <;> simp [hmn]
          · simp at hr
        · simp at hr
    obtain ⟨q, hq, hrun⟩ := key _ _ her
    have hfo : P.fieldsOf t = fs' := by simp [Program.fieldsOf, hu]
    have heq : (Op.equal t (.agg xv.toArray) (.agg yv.toArray)).run P c.w = .ok q c.w := by
      unfold Op.equal
      rw [show Op.maxDepth = 9998 + 1 + 1 from rfl, run_equalIn_struct c.w _ _ _ _ (by rw [hfo]; exact hu) hst, hfo]
      exact hrun 9998
    have hguard : ∀ op, (eqGuard op t x y (.agg xv.toArray) (.agg yv.toArray)).run P c.w = .ok () c.w := by
      intro op
      cases op <;> simp [eqGuard, hgd]
    split at h <;> simp at h
    · subst h
      refine does_still (bin_run ho (v := .bool q) ?_ (by rw [ex, ey]; exact hguard _)) (ok_bool hq)
      rw [ex, ey]
      simp [binOp, heq]
    · subst h
      refine does_still (bin_run ho (v := .bool !q) ?_ (by rw [ex, ey]; exact hguard _)) (ok_bool (by simp [E.not, den1, hq, evalF, D.b]))
      rw [ex, ey]
      simp [binOp, heq]
  · rename_i e1 e2
    simp only [Rd.val_bind, Rd.if_bind, Bool.and_eq_true] at h
    obtain ⟨⟨hb, ht⟩, h⟩ := h
    split at ht <;> simp at ht
    rename_i _ _ ms hu
    have ey : a.eval (.const .nilIface) = .nilIface := rfl
    have hguard : ∀ op, (eqGuard op t x (.const .nilIface) (a.eval x) (a.eval (.const .nilIface))).run P c.w = .ok () c.w := by
      intro op
      rw [ey]
      rcases sc_err vx with ⟨h1, _⟩ | ⟨tt, vv, h1, _⟩ <;> rw [h1] <;> cases op <;> simp [eqGuard]
    split at h <;> simp at h
    · subst h
      rcases sc_err vx with ⟨h1, h2⟩ | ⟨tt, vv, h1, h2⟩
      · refine does_still (bin_run ho (v := .bool true) ?_ (hguard _)) (ok_bool (by simp [E.not, den1, h2, evalF, D.b]))
        rw [h1, ey]; simp [binOp, equal_nil_nil hu, equal_iface_nil hu]
      · refine does_still (bin_run ho (v := .bool false) ?_ (hguard _)) (ok_bool (by simp [E.not, den1, h2, evalF, D.b]))
        rw [h1, ey]; simp [binOp, equal_nil_nil hu, equal_iface_nil hu]
    · subst h
      rcases sc_err vx with ⟨h1, h2⟩ | ⟨tt, vv, h1, h2⟩
      · refine does_still (bin_run ho (v := .bool false) ?_ (hguard _)) (ok_bool h2)
        rw [h1, ey]; simp [binOp, equal_nil_nil hu, equal_iface_nil hu]
      · refine does_still (bin_run ho (v := .bool true) ?_ (hguard _)) (ok_bool h2)
        rw [h1, ey]; simp [binOp, equal_nil_nil hu, equal_iface_nil hu]
  · obtain ⟨hu, ⟨v, hr, hv⟩, hgd⟩ := binEff_ok (P := P) (t0 := t) vx vy (fun hb => by revert hb; split <;> simp_all) h hn
    obtain ⟨val, upd, need⟩ := e
    change upd = [] at hu
    subst hu
    exact does_still (bin_run ho hr (hgd x y)) hv

end
end Go.Sx
