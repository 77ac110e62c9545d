/-
  The machine, part H: addresses of elements, slices, loads, fields, structs that are written out.
-/
import Derived.Test.YtnglgoloeabbeaaMG
namespace Go.Sx
open Go Go.RowKit
set_option linter.unusedSimpArgs false
set_option linter.unusedVariables false

section
variable {P : Program} {c : Ctx} {sl : Nat → AV} {a : Act} {B : Base} {o : Oper} {sigs : Nat → Option Sig} {clean : List Nat} {g : E} {e : Eff} {pre : Nat → List D → Prop}

theorem rep_isSl {ow : Bool} {ts : List Ty} {v : Value} {d : D} {fp : List Nat} {w : World} (h : Rep w ow (.sl ts) v d fp) : ∃ l, d = .sl l := by
  cases h <;> exact ⟨_, rfl⟩

theorem idx_run {t et : TypeId} {ts : List Ty} (he : elemOf P t = some (et, ts)) {x i : Operand} (ho : o.op = .indexAddr t x i) {b o' n k : Nat} {ki : IntKind} {m : Int}
    (hx : a.eval x = .slice (some ⟨b, o', none⟩) n k) (hi : a.eval i = .int ki m) (h0 : 0 ≤ m) (h1 : m < n) :
    (execOp a.eval o).run P c.w = .ok (.value (.pointer (some ⟨b, o' + m.toNat * ts.length, none⟩))) c.w := by
  obtain ⟨hu, ht⟩ := elemOf_spec he
  simp [execOp, ho, hx, hi, Instr.indexAt, asIntOf, run_underlying hu, h0, h1, run_sizeOf ht, addr_add]

/-- An element of a slice that reads as data: where it lies. -/
theorem elem_at {w : World} {ow : Bool} {ts : List Ty} {v : Value} {d : List (List D)} {fp : List Nat} (h : Rep w ow (.sl ts) v (.sl d) fp) {n : Nat} (hn : n < d.length) :
    ∃ b o' len k vs f, v = .slice (some ⟨b, o', none⟩) len k ∧ d.length = len ∧ Holds w b (o' + n * ts.length) vs ∧ RepC w ow ts vs d[n] f ∧ (∃ fp0, fp = b :: fp0 ∧ ∀ q ∈ f, q ∈ fp0) ∧ b < w.heap.size ∧
      (ow = true → Opn w b (o' + k * ts.length)) ∧ len ≤ k ∧ (∀ j, j < ts.length → w.cell? ⟨b, o' + n * ts.length + j, none⟩ = vs[j]?) := by
  cases h with
  | nil => simp at hn
  | emp _ _ => simp at hn
  | sl h1 h2 h3 h4 h5 h6 h7 =>
    rename_i b o' len k vs f
    obtain ⟨vc, f', a1, a2, a3⟩ := h7.get (i := n) (c := d[n]) (by simp [hn])
    have hlen := h7.len
    have hle : n * ts.length + ts.length ≤ vs.length := by
      rw [hlen]
      have : (n + 1) * ts.length ≤ d.length * ts.length := Nat.mul_le_mul_right _ (by omega)
      rw [Nat.succ_mul] at this
      exact this
    have hh : Holds w b (o' + n * ts.length) vc := by
      rw [← a1]
      exact holds_take (holds_drop h1 _ (by omega)) _
    exact ⟨b, o', len, k, vc, f', rfl, h2, hh, a2, ⟨f, rfl, a3⟩, h6, h5, h3, fun j hj => hh j (by rw [a2.len.1]; exact hj)⟩

theorem toNat_of {m : Int} (h : 0 ≤ m) : m = (m.toNat : Int) := by omega

theorem rptr_ok {ts : List Ty} {e i : E} {v : Value} {fp : List Nat} (hr : Rep c.w false (.sl ts) v (c.den e) fp) (hp : ∀ k ∈ fp, Perm c.hp c.L k) {m : Int} (hi : c.den i = .int m) (h0 : 0 ≤ m)
    (h1 : NeedOk pre c (.e (.lt i (.len e)))) : ∃ b o' n k, v = .slice (some ⟨b, o', none⟩) n k ∧ m < n ∧ AVOk c (.rptr ts e i 0) (.pointer (some ⟨b, o' + m.toNat * ts.length, none⟩)) := by
  obtain ⟨d, hd⟩ := rep_isSl hr
  rw [hd] at hr
  have hlt := need_lt hi (den_len hd) h1
  have hn : m.toNat < d.length := by omega
  obtain ⟨b, o', len, k, vs, f, a1, a2, a3, a4, a5, a6, _⟩ := elem_at hr hn
  refine ⟨b, o', len, k, a1, by omega, b, o' + m.toNat * ts.length, vs, f, d[m.toNat], m.toNat, by rw [hi]; exact congrArg D.int (toNat_of h0), by simp [hd, hn], by simp, a3, a4, fun q hq => ?_, a6⟩
  obtain ⟨fp0, rfl, a5⟩ := a5
  rcases List.mem_cons.1 hq with rfl | hq
  · exact hp _ (List.mem_cons_self ..)
  · exact hp q (List.mem_cons_of_mem _ (a5 q hq))

theorem indexAddr_ok (s : Sim B c sl a) (hg : (c.den g).b = true) {t : TypeId} {x i : Operand} (ho : o.op = .indexAddr t x i)
    (h : (opEff P sigs clean g o).val sl c.hp = some e) (hn : ∀ n ∈ e.need, NeedOk pre c n) : Does P o a c e := by
  simp only [opEff, ho, Rd.val_bind] at h
  replace h := bind_some h; obtain ⟨ax, hx, h⟩ := h
  replace h := bind_some h; obtain ⟨ai, hi, h⟩ := h
  have vx := evalG_ok s hg hx
  have vi := evalG_ok s hg hi
  simp only [idxEff, Rd.val_bind, Rd.val_opt] at h
  replace h := bind_some h; obtain ⟨⟨et, ts⟩, he, h⟩ := h
  replace h := bind_some h; obtain ⟨⟨ki, ei⟩, hq, h⟩ := h
  rw [scI_ok hq] at vi
  obtain ⟨m, f1, f2, f3⟩ := sc_int vi
  split at h
  · simp at h; subst h
    have := hn (.e (.bool false)) (by simp)
    simp [NeedOk, denB] at this
  · rename_i ts' ex
    simp only [Rd.val_bind, Rd.if_bind] at h
    obtain ⟨hts, h⟩ := h
    simp at h; subst h
    have h0 := need_le denI f2 (hn (.e (.le (.int 0) ei)) (by simp))
    obtain ⟨fp, hr, hp⟩ := vx
    rw [Ty.eqL hts] at hr
    obtain ⟨b, o', n, k, e1, e2, e3⟩ := rptr_ok (pre := pre) hr hp f2 h0 (hn _ (by simp))
    exact does_still (idx_run he ho e1 f1 h0 e2) e3
  · rename_i b g'
    simp only [Rd.val_bind, Rd.val_blk, Option.bind_some] at h
    split at h
    case h_2 => simp at h
    rename_i g'' u ts' ex own cl live hb
    simp only [Rd.val_bind, Rd.if_bind, Bool.and_eq_true, beq_iff_eq] at h
    obtain ⟨⟨rfl, hts⟩, h⟩ := h
    simp at h; subst h
    have h0 := need_le denI f2 (hn (.e (.le (.int 0) ei)) (by simp))
    have hbk := s.blks _ _ hb
    have hr := row_rep hbk
    have hv := vx.2.2 _ _ _ _ _ _ hb
    rw [← hv, Ty.eqL hts] at hr
    cases live with
    | false =>
      obtain ⟨b', o', n, k, e1, e2, e3⟩ := rptr_ok (pre := pre) hr (hbk.2.1 rfl) f2 h0 (hn _ (by simp))
      exact does_still (idx_run he ho e1 f1 h0 e2) e3
    | true =>
      obtain ⟨d, hd⟩ := RowOk.isSl hbk
      rw [hd] at hr
      have hlt := need_lt f2 (den_len hd) (hn (.e (.lt ei (.len ex))) (by simp))
      obtain ⟨b', o', len, k, vs, f, a1, a2, a3, a4, a5, a6, _⟩ := elem_at hr (n := m.toNat) (by omega)
      refine does_still (idx_run he ho a1 f1 h0 (by omega)) ⟨⟨_, _, rfl⟩, vx.2.1, fun u2 ts2 e2 own2 cl2 live2 hb2 => ?_⟩
      rw [hb] at hb2
      simp only [Option.some.injEq, Blk.row.injEq, true_and] at hb2
      obtain ⟨rfl, rfl, rfl, rfl, rfl, rfl⟩ := hb2
      have hblk : b' = (c.L b).blk := by
        obtain ⟨⟨d', _, h1⟩, _⟩ := hbk
        rcases h1 with ⟨q1, _⟩ | ⟨q0, q1, q2, q3, q4, _⟩
        · rw [← hv, a1] at q1; simp at q1
        · rw [← hv, a1] at q4; simp at q4; exact q4.1.1
      subst hblk
      exact ⟨m.toNat, by rw [f2]; exact congrArg D.int (toNat_of h0), o', len, k, by rw [← hv, a1], by omega, by rw [Ty.eqL hts]; simp⟩
  · rename_i b g' lo hi'
    simp only [Rd.val_bind, Rd.val_blk, Option.bind_some] at h
    split at h
    case h_2 => simp at h
    rename_i g'' u ts' ex own cl live hb
    simp only [Rd.val_bind, Rd.if_bind, Bool.and_eq_true, beq_iff_eq] at h
    obtain ⟨⟨rfl, hts⟩, h⟩ := h
    simp at h; subst h
    have h0 := need_le denI f2 (hn (.e (.le (.int 0) ei)) (by simp))
    have hbk := s.blks _ _ hb
    have hr := row_rep hbk
    obtain ⟨l, hh, p1, p2, p3⟩ := vx.2.2 _ _ _ _ _ _ hb
    obtain ⟨d, hd⟩ := RowOk.isSl hbk
    rw [hd, Ty.eqL hts] at hr
    rw [Ty.eqL hts] at p3
    obtain ⟨f, hsub, hr'⟩ := part_rep hr p3
    have hsl : c.den (.app .slice [ex, lo, hi']) = .sl ((d.take hh).drop l) := by rw [den_slice p1 p2, hd]; rfl
    cases live with
    | false =>
      rw [← hsl] at hr'
      obtain ⟨b', o', n, k, e1, e2, e3⟩ := rptr_ok (pre := pre) hr' (fun q hq => hbk.2.1 rfl q (hsub.subset hq)) f2 h0 (hn _ (by simp))
      exact does_still (idx_run he ho e1 f1 h0 e2) e3
    | true =>
      have hlt := need_lt f2 (den_len hsl) (hn (.e (.lt ei (.len (.app .slice [ex, lo, hi'])))) (by simp))
      simp only [List.length_drop, List.length_take] at hlt
      obtain ⟨⟨d', hd', h1⟩, _⟩ := hbk
      rcases h1 with ⟨q1, q2, _⟩ | ⟨o', len, cap, vs, q1, q2, q3, q4, q5, q6, q7, q8⟩
      · rw [q1] at p3
        obtain ⟨r1, r2, r3, r4⟩ := p3
        rw [hd] at hd'
        simp only [D.sl.injEq] at hd'
        subst hd'
        rw [q2] at hlt
        simp at hlt
        omega
      · rw [q1] at p3
        obtain ⟨r1, r2, r3, r4⟩ := p3
        rw [hd] at hd'
        simp only [D.sl.injEq] at hd'
        subst hd'
        have hcap : cap ≠ l := by omega
        rw [if_neg hcap] at r4
        simp only [Option.map_some, addr_add] at r4
        have hml : m < ((hh - l : Nat) : Int) := by omega
        refine does_still (idx_run he ho r4 f1 h0 hml) ⟨⟨_, _, rfl⟩, vx.2.1, fun u2 ts2 e2 own2 cl2 live2 hb2 => ?_⟩
        rw [hb] at hb2
        simp only [Option.some.injEq, Blk.row.injEq, true_and] at hb2
        obtain ⟨rfl, rfl, rfl, rfl, rfl, rfl⟩ := hb2
        have hw : IntKind.i64.wrap ((l : Int) + m) = ((l + m.toNat : Nat) : Int) := by
          have : 0 ≤ (l : Int) + m ∧ (l : Int) + m < 9223372036854775808 := by omega
          simp [IntKind.wrap, IntKind.bits, IntKind.signed]
          omega
        refine ⟨l + m.toNat, by simp [E.add, den2, p1, f2, evalF, hw], o', len, cap, q1, by omega, ?_⟩
        rw [Ty.eqL hts, Nat.add_mul]
        simp only [Value.pointer.injEq, Option.some.injEq, Addr.mk.injEq, true_and, and_true]
        omega
  · rename_i b g' u ii j ts0
    simp only [Rd.val_bind, Rd.val_blk, Option.bind_some] at h
    split at h
    case h_2 => simp at h
    rename_i g'' u' tsr ex own cl hb
    simp only [Rd.val_bind, Rd.if_bind, Bool.and_eq_true, beq_iff_eq] at h
    obtain ⟨⟨⟨rfl, rfl⟩, hts⟩, h⟩ := h
    simp at h; subst h
    have h0 := need_le denI f2 (hn (.e (.le (.int 0) ei)) (by simp))
    have hbk := s.blks _ _ hb
    obtain ⟨p1, p2⟩ := vx.2.2 _ _ _ _ _ hb
    obtain ⟨r1, n, r2, r3⟩ := p2 rfl
    obtain ⟨f, hf, _⟩ := cellAt_rep hbk r3 r1
    rw [← den_cell r2] at hf
    have heq : ts0 = ts := Ty.eqL hts
    subst heq
    obtain ⟨d, hd⟩ := rep_isSl hf
    have hlt := need_lt f2 (den_len hd) (hn (.e (.lt ei (.len (.cell ex ii j)))) (by simp))
    rw [hd] at hf
    obtain ⟨b', o', len, k, vs, f', a1, a2, a3, a4, a5, a6, _⟩ := elem_at hf (n := m.toNat) (by omega)
    refine does_still (idx_run he ho a1 f1 h0 (by omega)) ⟨⟨_, _, rfl⟩, vx.2.1, fun u2 ts2 e2 own2 cl2 hb2 => ?_⟩
    rw [hb] at hb2
    simp only [Option.some.injEq, Blk.row.injEq, true_and, and_true] at hb2
    obtain ⟨rfl, rfl, rfl, rfl, rfl⟩ := hb2
    refine ⟨Nat.le_refl _, fun _ => ⟨r1, n, m.toNat, r2, by rw [f2]; exact congrArg D.int (toNat_of h0), b', o', len, k, ?_, by omega, by simp⟩⟩
    rw [← a1]; exact r3
  · simp at h

/-! ### Slices -/

/-- A bound that is told or not. -/
def BoundIs (v : Option Value) (dflt n : Nat) : Prop := (v = none ∧ n = dflt) ∨ ∃ k : IntKind, v = some (.int k n)

theorem bound_ok (s : Sim B c sl a) (hg : (c.den g).b = true) {d : E} {x : Option Operand} {eb : E} (h : (bound (evalG g) d x).val sl c.hp = some eb) :
    (x = none ∧ eb = d) ∨ ∃ y k n, x = some y ∧ a.eval y = .int k n ∧ c.den eb = .int n := by
  cases x with
  | none => simp [bound] at h; exact .inl ⟨rfl, h.symm⟩
  | some y =>
    simp only [bound, Rd.val_bind] at h
    replace h := bind_some h; obtain ⟨v, hv, h⟩ := h
    replace h := bind_some h; obtain ⟨⟨k, e'⟩, hq, h⟩ := h
    simp at h; subst h
    have := evalG_ok s hg hv
    rw [scI_ok hq] at this
    obtain ⟨n, f1, f2, _⟩ := sc_int this
    exact .inr ⟨y, k, n, rfl, f1, f2⟩

theorem bound_is {d : E} {x : Option Operand} {eb : E} {dn : Nat} (hd : c.den d = .int dn) (h : (x = none ∧ eb = d) ∨ ∃ y k n, x = some y ∧ a.eval y = .int k n ∧ c.den eb = .int n) {m : Int} (hm : c.den eb = .int m) (h0 : 0 ≤ m) :
    BoundIs (x.map a.eval) dn m.toNat ∧ c.den eb = .int (m.toNat : Int) := by
  have hc : c.den eb = .int (m.toNat : Int) := by rw [hm]; exact congrArg D.int (toNat_of h0)
  refine ⟨?_, hc⟩
  rcases h with ⟨rfl, rfl⟩ | ⟨y, k, n, rfl, h1, h2⟩
  · rw [hd] at hm
    simp at hm
    exact .inl ⟨rfl, by omega⟩
  · rw [hm] at h2
    simp at h2
    subst h2
    exact .inr ⟨k, by simp only [Option.map_some, h1, Option.some.injEq, Value.int.injEq, true_and]; exact toNat_of h0⟩

theorem bounds_run {lo hi : Option Value} {len cap l h : Nat} (isS : Bool) (hl : BoundIs lo 0 l) (hh : BoundIs hi len h) (h1 : l ≤ h) (h2 : h ≤ cap) {w : World} :
    (Instr.sliceBounds isS len cap lo hi none).run P w = .ok (l, h, cap) w := by
  unfold Instr.sliceBounds
  have e1 : ∀ (v : Value) (y n : Nat) (k : IntKind) (code : BoundsCode), v = .int k n → n ≤ y → (Instr.sliceBound v y code).run P w = .ok n w := by
    intro v y n k code hv hy
    subst hv
    have : 0 ≤ (n : Int) ∧ (n : Int) ≤ (y : Int) := by omega
    simp [Instr.sliceBound, asIntOf, this]
  rcases hl with ⟨rfl, rfl⟩ | ⟨k, rfl⟩ <;> rcases hh with ⟨rfl, rfl⟩ | ⟨k', rfl⟩
  · simp
  · simp [e1 _ cap h k' _ rfl h2]
  · simp [e1 _ h l k _ rfl h1]
  · simp [e1 _ cap h k' _ rfl h2, e1 _ h l k _ rfl h1]

theorem slice_run {t et : TypeId} {ts : List Ty} (he : elemOf P t = some (et, ts)) {x : Operand} {lo hi : Option Operand} (ho : o.op = .slice t x lo hi none) {p : Option Addr} {len cap l h : Nat}
    (hx : a.eval x = .slice p len cap) (hl : BoundIs (lo.map a.eval) 0 l) (hh : BoundIs (hi.map a.eval) len h) (h1 : l ≤ h) (h2 : h ≤ len) (h3 : len ≤ cap) :
    (execOp a.eval o).run P c.w = .ok (.value (.slice (if cap = l then p else p.map (·.add (l * ts.length))) (h - l) (cap - l))) c.w := by
  obtain ⟨hu, ht⟩ := elemOf_spec he
  have hb := bounds_run (P := P) (w := c.w) (len := len) (cap := cap) true hl hh h1 (by omega)
  simp [execOp, ho, hx, Instr.sliceAt, Instr.slice, run_underlying hu, hb, run_sizeOf ht]

theorem slice_str_run {t : TypeId} (he : P.underlying t = some .string) {x : Operand} {lo hi : Option Operand} (ho : o.op = .slice t x lo hi none) {str : ByteArray} {l h : Nat}
    (hx : a.eval x = .string str) (hl : BoundIs (lo.map a.eval) 0 l) (hh : BoundIs (hi.map a.eval) str.size h) (h1 : l ≤ h) (h2 : h ≤ str.size) :
    (execOp a.eval o).run P c.w = .ok (.value (.string (str.extract l h))) c.w := by
  have hb := bounds_run (P := P) (w := c.w) (len := str.size) (cap := str.size) false hl hh h1 h2
  simp [execOp, ho, hx, Instr.sliceAt, Instr.slice, run_underlying he, hb]

/-- What is asked of bounds. -/
theorem bounds_of {lo hi top : E} {n : Nat} (ht : c.den top = .int n) (m : ∀ q ∈ [Need.e (.le (.int 0) lo), .e (.le lo hi), .e (.le hi top)], NeedOk pre c q) {l h : Int} (hl : c.den lo = .int l) (hh : c.den hi = .int h) :
    0 ≤ l ∧ l ≤ h ∧ h ≤ n :=
  ⟨need_le denI hl (m _ (by simp)), need_le hl hh (m _ (by simp)), need_le hh ht (m _ (by simp))⟩

theorem bound_int {d : E} {x : Option Operand} {eb : E} {dn : Nat} (hd : c.den d = .int dn) (h : (x = none ∧ eb = d) ∨ ∃ y k n, x = some y ∧ a.eval y = .int k n ∧ c.den eb = .int n) : ∃ m, c.den eb = .int m := by
  rcases h with ⟨_, rfl⟩ | ⟨_, _, n, _, _, h⟩
  · exact ⟨_, hd⟩
  · exact ⟨n, h⟩

theorem ro_part {ts : List Ty} {ex lo hi : E} {v : Value} {fp : List Nat} (hr : Rep c.w false (.sl ts) v (c.den ex) fp) (hp : ∀ k ∈ fp, Perm c.hp c.L k) {l h : Nat} (hl : c.den lo = .int l) (hh : c.den hi = .int h)
    (h1 : l ≤ h) {d : List (List D)} (hd : c.den ex = .sl d) (h2 : h ≤ d.length) : ∃ p len k, v = .slice p len k ∧ d.length = len ∧ len ≤ k ∧
      AVOk c (.ro ts (.app .slice [ex, lo, hi])) (.slice (if k = l then p else p.map (·.add (l * ts.length))) (h - l) (k - l)) := by
  obtain ⟨p, k, e1, e2, e3⟩ := rep_slice hr
  rw [hd] at hr
  rw [hd, D.l_sl] at e1 e2
  subst e1
  obtain ⟨f, hsub, hr'⟩ := part_rep hr (l := l) (h := h) (v := .slice (if k = l then p else p.map (·.add (l * ts.length))) (h - l) (k - l)) ⟨h1, h2, e2, rfl⟩
  refine ⟨p, _, k, rfl, rfl, e2, f, ?_, fun q hq => hp q (hsub.subset hq)⟩
  rw [den_slice hl hh, hd]
  exact hr'

/-- What lies below a live row that is not clean does not turn. -/
theorem low_perm (s : Sim B c sl a) {b g u : Nat} {ts : List Ty} {ex : E} {own : Bool} (hb : c.hp b = some (.row g u ts ex own false true)) : ∀ q ∈ (c.L b).fp, Perm c.hp c.L q := by
  intro q hq
  have hbk := s.blks _ _ hb
  cases own with
  | false => exact hbk.2.2.1 rfl rfl q hq
  | true =>
    refine ⟨?_, s.apart b _ hb q (by simp [acc]; exact .inr hq)⟩
    intro b' x' hx' hm
    by_cases hbb : b' = b
    · subst hbb
      rw [hb] at hx'
      simp only [Option.some.injEq] at hx'
      subst hx'
      simp only [hard, Bool.false_eq_true, if_false, List.append_nil] at hm
      have hnd := hbk.2.2.2.1 rfl rfl
      exact (List.nodup_append.1 hnd).2.2 q hm q hq rfl
    · exact s.disj b b' _ _ (Ne.symm hbb) hb hx' q (by simp [acc]; exact .inr hq) (hard_acc (s.blks _ _ hx') q hm)

theorem slice_ok (s : Sim B c sl a) (hg : (c.den g).b = true) {t : TypeId} {x : Operand} {lo hi mx : Option Operand} (ho : o.op = .slice t x lo hi mx)
    (h : (opEff P sigs clean g o).val sl c.hp = some e) (hn : ∀ n ∈ e.need, NeedOk pre c n) : Does P o a c e := by
  simp only [opEff, ho, Rd.val_bind, Rd.if_bind] at h
  obtain ⟨hmx, h⟩ := h
  have : mx = none := by simpa using hmx
  subst this
  replace h := bind_some h; obtain ⟨ax, hx, h⟩ := h
  replace h := bind_some h; obtain ⟨elo, hlo, h⟩ := h
  have vx := evalG_ok s hg hx
  have blo := bound_ok s hg hlo
  obtain ⟨l, hl⟩ := bound_int (dn := 0) denI blo
  split at h
  · rename_i ex
    simp only [Rd.val_bind, Rd.if_bind] at h
    obtain ⟨hs, h⟩ := h
    replace h := bind_some h; obtain ⟨eh, hh, h⟩ := h
    simp at h; subst h
    obtain ⟨str, e1, e2, e3⟩ := sc_str vx
    have bh := bound_ok s hg hh
    have hsz : str.data.toList.length = str.size := by simp
    have htop : c.den (.app .slen [ex]) = .int str.size := by rw [den_slen e2, hsz]
    obtain ⟨m, hm⟩ := bound_int htop bh
    obtain ⟨n1, n2, n3⟩ := bounds_of htop hn hl hm
    obtain ⟨b1, d1⟩ := bound_is (dn := 0) denI blo hl n1
    obtain ⟨b2, d2⟩ := bound_is htop bh hm (by omega)
    refine does_still (slice_str_run (isStr_ok hs) ho e1 b1 b2 (by omega) (by omega)) (ok_str ?_ ?_)
    · rw [den3, e2, hl, hm, ByteArray.data_extract, Array.toList_extract]
      simp [evalF, List.extract_eq_take_drop, List.drop_take]
    · simp; omega
  · simp only [Rd.val_bind, Rd.val_opt] at h
    replace h := bind_some h; obtain ⟨⟨et, ts⟩, he, h⟩ := h
    split at h
    · rename_i ts' ex _
      simp only [Rd.val_bind, Rd.if_bind] at h
      obtain ⟨hts, h⟩ := h
      replace h := bind_some h; obtain ⟨eh, hh, h⟩ := h
      simp at h; subst h
      obtain ⟨fp, hr, hp⟩ := vx
      rw [Ty.eqL hts] at hr
      obtain ⟨d, hd⟩ := rep_isSl hr
      have bh := bound_ok s hg hh
      obtain ⟨m, hm⟩ := bound_int (den_len hd) bh
      obtain ⟨n1, n2, n3⟩ := bounds_of (den_len hd) hn hl hm
      obtain ⟨b1, d1⟩ := bound_is (dn := 0) denI blo hl n1
      obtain ⟨b2, d2⟩ := bound_is (den_len hd) bh hm (by omega)
      obtain ⟨p, len, k, q1, q2, q3, q4⟩ := ro_part hr hp d1 d2 (by omega) hd (by omega)
      exact does_still (slice_run he ho q1 b1 (by rw [← q2]; exact b2) (by omega) (by omega) q3) q4
    · simp only [Rd.val_bind] at h
      replace h := bind_some h; obtain ⟨eh, hh, h⟩ := h
      simp at h; subst h
      have hv : a.eval x = .slice none 0 0 := vx
      have bh := bound_ok s hg hh
      obtain ⟨m, hm⟩ := bound_int (dn := 0) denI bh
      obtain ⟨n1, n2, n3⟩ := bounds_of (n := 0) denI hn hl hm
      obtain ⟨b1, d1⟩ := bound_is (dn := 0) denI blo hl n1
      obtain ⟨b2, d2⟩ := bound_is (dn := 0) denI bh hm (by omega)
      have e1 : l = 0 := by omega
      have e2 : m = 0 := by omega
      subst e1; subst e2
      refine does_still (slice_run he ho hv b1 b2 (by omega) (by omega) (by omega)) ?_
      show _ = _
      simp
    · rename_i b g' _
      simp only [Rd.val_bind, Rd.val_blk, Option.bind_some] at h
      split at h
      case h_2 => simp at h
      rename_i g'' u ts' ex own cl live hb
      simp only [Rd.val_bind, Rd.if_bind, Bool.and_eq_true, beq_iff_eq] at h
      obtain ⟨⟨rfl, hts⟩, h⟩ := h
      replace h := bind_some h; obtain ⟨eh, hh, h⟩ := h
      simp at h; subst h
      have hbk := s.blks _ _ hb
      have hr := row_rep hbk
      have hv := vx.2.2 _ _ _ _ _ _ hb
      rw [← hv, Ty.eqL hts] at hr
      obtain ⟨d, hd⟩ := rep_isSl hr
      have bh := bound_ok s hg hh
      obtain ⟨m, hm⟩ := bound_int (den_len hd) bh
      obtain ⟨n1, n2, n3⟩ := bounds_of (den_len hd) hn hl hm
      obtain ⟨b1, d1⟩ := bound_is (dn := 0) denI blo hl n1
      obtain ⟨b2, d2⟩ := bound_is (den_len hd) bh hm (by omega)
      cases live with
      | false =>
        obtain ⟨p, len, k, q1, q2, q3, q4⟩ := ro_part hr (hbk.2.1 rfl) d1 d2 (by omega) hd (by omega)
        exact does_still (slice_run he ho q1 b1 (by rw [← q2]; exact b2) (by omega) (by omega) q3) q4
      | true =>
        obtain ⟨p, k, e1, e2, e3⟩ := rep_slice hr
        rw [hd, D.l_sl] at e1 e2
        refine does_still (slice_run he ho e1 b1 b2 (by omega) (by omega) e2) ⟨⟨_, _, _, rfl⟩, vx.2.1, fun u2 ts2 e2' own2 cl2 live2 hb2 => ?_⟩
        rw [hb] at hb2
        simp only [Option.some.injEq, Blk.row.injEq, true_and] at hb2
        obtain ⟨rfl, rfl, rfl, rfl, rfl, rfl⟩ := hb2
        refine ⟨_, _, d1, d2, ?_⟩
        rw [← hv, e1, Ty.eqL hts]
        exact ⟨by omega, by omega, e2, rfl⟩
    · rename_i b g' lo0 hi0 _
      simp only [Rd.val_bind, Rd.val_blk, Option.bind_some] at h
      split at h
      case h_2 => simp at h
      rename_i g'' u ts' ex own cl hb
      simp only [Rd.val_bind, Rd.if_bind, Bool.and_eq_true, beq_iff_eq] at h
      obtain ⟨⟨rfl, hts⟩, h⟩ := h
      replace h := bind_some h; obtain ⟨eh, hh, h⟩ := h
      simp at h; subst h
      have hbk := s.blks _ _ hb
      have hr := row_rep hbk
      obtain ⟨l0, h0, p1, p2, p3⟩ := vx.2.2 _ _ _ _ _ _ hb
      obtain ⟨d0, hd0⟩ := RowOk.isSl hbk
      rw [hd0, Ty.eqL hts] at hr
      rw [Ty.eqL hts] at p3
      obtain ⟨f, hsub, hr'⟩ := part_rep hr p3
      have hd : c.den (.app .slice [ex, lo0, hi0]) = .sl ((d0.take h0).drop l0) := by rw [den_slice p1 p2, hd0]; rfl
      rw [← hd] at hr'
      have bh := bound_ok s hg hh
      obtain ⟨m, hm⟩ := bound_int (den_len hd) bh
      obtain ⟨n1, n2, n3⟩ := bounds_of (den_len hd) hn hl hm
      obtain ⟨b1, d1⟩ := bound_is (dn := 0) denI blo hl n1
      obtain ⟨b2, d2⟩ := bound_is (den_len hd) bh hm (by omega)
      obtain ⟨p, len, k, q1, q2, q3, q4⟩ := ro_part hr' (fun q hq => hbk.2.1 rfl q (hsub.subset hq)) d1 d2 (by omega) hd (by omega)
      exact does_still (slice_run he ho q1 b1 (by rw [← q2]; exact b2) (by omega) (by omega) q3) q4
    · rename_i b g' u i j ts0 _
      simp only [Rd.val_bind, Rd.val_blk, Option.bind_some] at h
      split at h
      case h_2 => simp at h
      rename_i g'' u' tsr ex own hb
      simp only [Rd.val_bind, Rd.if_bind, Bool.and_eq_true, beq_iff_eq] at h
      obtain ⟨⟨⟨rfl, rfl⟩, hts⟩, h⟩ := h
      replace h := bind_some h; obtain ⟨eh, hh, h⟩ := h
      simp at h; subst h
      have hbk := s.blks _ _ hb
      obtain ⟨p1, p2⟩ := vx.2.2 _ _ _ _ _ hb
      obtain ⟨r1, n, r2, r3⟩ := p2 rfl
      obtain ⟨f, hf, hsub⟩ := cellAt_rep hbk r3 r1
      rw [← den_cell r2] at hf
      rw [Ty.eqL hts] at hf
      obtain ⟨d, hd⟩ := rep_isSl hf
      have bh := bound_ok s hg hh
      obtain ⟨m, hm⟩ := bound_int (den_len hd) bh
      obtain ⟨n1, n2, n3⟩ := bounds_of (den_len hd) hn hl hm
      obtain ⟨b1, d1⟩ := bound_is (dn := 0) denI blo hl n1
      obtain ⟨b2, d2⟩ := bound_is (den_len hd) bh hm (by omega)
      obtain ⟨p, len, k, q1, q2, q3, q4⟩ := ro_part hf.ro (fun q hq => low_perm s hb q (hsub q hq)) d1 d2 (by omega) hd (by omega)
      exact does_still (slice_run he ho q1 b1 (by rw [← q2]; exact b2) (by omega) (by omega) q3) q4
    · simp at h

/-! ### Loads -/

theorem load_run {t : TypeId} {agg : Bool} {ts : List Ty} (ht : tyOf P t = some ts) (ha : aggOf P t = some agg) {x : Operand} (ho : o.op = .load t x) {b o' : Nat} {vs : List Value} (hx : a.eval x = .pointer (some ⟨b, o', none⟩))
    (hl : vs.length = ts.length) (h1 : agg = true ∨ ts.length = 1) (hh : Holds c.w b o' vs) : (execOp a.eval o).run P c.w = .ok (.value (varVal agg vs)) c.w := by
  simp [execOp, ho, hx, Instr.loadAt, Instr.sureAddr, run_loadVar ht ha hl h1 hh]

theorem loadRo_len {e i : E} : ∀ {j : Nat} {ts : List Ty}, (loadRo e i j ts).length = ts.length
  | _, [] => rfl
  | j, .sl ts :: r => by simp [loadRo, loadRo_len]
  | j, .int _ :: r | j, .bool :: r | j, .str :: r | j, .err :: r => by simp [loadRo, loadRo_len]

/-- The cells of an element as they are loaded, where they are but read. -/
theorem loadRo_ok {ow : Bool} {ex i : E} {n : Nat} (hi : c.den i = .int n) : ∀ {j : Nat} {ts : List Ty} {vs : List Value} {ds : List D} {f : List Nat}, RepC c.w ow ts vs ds f → (∀ k ∈ f, Perm c.hp c.L k) →
    (∀ m, m < ds.length → ((c.den ex).l.getD n []).getD (j + m) default = ds.getD m default) → AVsOk c (loadRo ex i j ts) vs
  | j, _, _, _, _, .nil, _, _ => trivial
  | j, _, _, _, _, .cons (t := t) (ts := ts) (v := v) (d := d) h1 h2, hp, hd => by
    have h0 : c.den (.cell ex i j) = d := by
      have := hd 0 (by simp)
      rw [den_cell hi]
      simpa using this
    have hr := loadRo_ok (ex := ex) hi (j := j + 1) h2 (fun k hk => hp k (List.mem_append_right _ hk)) (fun m hm => by
      have := hd (m + 1) (by simp; omega)
      rw [show j + 1 + m = j + (m + 1) from by omega, this]
      simp)
    have nofp : isSl t = false → Rep c.w false t v d [] := by
      intro ht
      cases h1 <;> first | (simp [isSl] at ht; done) | constructor <;> assumption
    cases t with
    | sl ts' => exact ⟨⟨_, by rw [h0]; exact h1.ro, fun k hk => hp k (List.mem_append_left _ hk)⟩, hr⟩
    | int k => exact ⟨⟨rfl, by rw [h0]; exact nofp rfl⟩, hr⟩
    | bool => exact ⟨⟨rfl, by rw [h0]; exact nofp rfl⟩, hr⟩
    | str => exact ⟨⟨rfl, by rw [h0]; exact nofp rfl⟩, hr⟩
    | err => exact ⟨⟨rfl, by rw [h0]; exact nofp rfl⟩, hr⟩

/-- The same, where each slice is known by its place. -/
theorem loadUnder_ok {ow : Bool} {ex i : E} {n b g' u : Nat} {tsr : List Ty} (hi : c.den i = .int n) (hg' : g' < gen (c.hp b)) (hu : ∀ u' ts e own clean, c.hp b = some (.row g' u' ts e own clean true) → u ≤ u' ∧ (u' = u → ts = tsr)) :
    ∀ {j : Nat} {ts : List Ty} {vs : List Value} {ds : List D} {f : List Nat}, RepC c.w ow ts vs ds f →
    (∀ m, m < ds.length → ((c.den ex).l.getD n []).getD (j + m) default = ds.getD m default) → (∀ m v, vs[m]? = some v → c.cellAt b tsr n (j + m) v) → (∀ m t, ts[m]? = some t → tsr[j + m]? = some t) →
    AVsOk c (loadUnder b g' u ex i j ts) vs
  | j, _, _, _, _, .nil, _, _, _ => trivial
  | j, _, _, _, _, .cons (t := t) (ts := ts) (v := v) (d := d) h1 h2, hd, hc, ht => by
    have h0 : c.den (.cell ex i j) = d := by
      have := hd 0 (by simp)
      rw [den_cell hi]
      simpa using this
    have hr := loadUnder_ok (ex := ex) hi hg' hu (j := j + 1) h2 (fun m hm => by
      have := hd (m + 1) (by simp; omega)
      rw [show j + 1 + m = j + (m + 1) from by omega, this]
      simp) (fun m v hm => by
        have := hc (m + 1) v (by simpa using hm)
        rwa [show j + 1 + m = j + (m + 1) from by omega]) (fun m t hm => by
        have := ht (m + 1) t (by simpa using hm)
        rwa [show j + 1 + m = j + (m + 1) from by omega])
    have nofp : isSl t = false → Rep c.w false t v d [] := by
      intro ht
      cases h1 <;> first | (simp [isSl] at ht; done) | constructor <;> assumption
    cases t with
    | sl ts' =>
      refine ⟨⟨?_, hg', fun u' tsr' e own clean hx => ⟨(hu _ _ _ _ _ hx).1, fun he => ?_⟩⟩, hr⟩
      · obtain ⟨p, k, e1, _⟩ := rep_slice h1; exact ⟨_, _, _, e1⟩
      · have := (hu _ _ _ _ _ hx).2 he
        subst this
        exact ⟨by simpa using ht 0 _ rfl, n, hi, by simpa using hc 0 v rfl⟩
    | int k => exact ⟨⟨rfl, by rw [h0]; exact nofp rfl⟩, hr⟩
    | bool => exact ⟨⟨rfl, by rw [h0]; exact nofp rfl⟩, hr⟩
    | str => exact ⟨⟨rfl, by rw [h0]; exact nofp rfl⟩, hr⟩
    | err => exact ⟨⟨rfl, by rw [h0]; exact nofp rfl⟩, hr⟩

/-- Some of the cells of an element. -/
theorem RepC.part {w : World} {ow : Bool} : ∀ {ts : List Ty} {vs : List Value} {ds : List D} {f : List Nat}, RepC w ow ts vs ds f → ∀ (j m : Nat), ∃ f', RepC w ow ((ts.drop j).take m) ((vs.drop j).take m) ((ds.drop j).take m) f' ∧ ∀ k ∈ f', k ∈ f
  | _, _, _, _, .nil, j, m => ⟨[], by simpa using .nil, fun k hk => nomatch hk⟩
  | _, _, _, _, .cons h1 h2, 0, 0 => ⟨[], by simpa using .nil, fun k hk => nomatch hk⟩
  | _, _, _, _, .cons h1 h2, 0, m + 1 => by
    obtain ⟨f', a, b⟩ := RepC.part h2 0 m
    exact ⟨_, .cons h1 (by simpa using a), fun k hk => by
      rcases List.mem_append.1 hk with hk | hk
      · exact List.mem_append_left _ hk
      · exact List.mem_append_right _ (b k hk)⟩
  | _, _, _, _, .cons h1 h2, j + 1, m => by
    obtain ⟨f', a, b⟩ := RepC.part h2 j m
    exact ⟨f', by simpa using a, fun k hk => List.mem_append_right _ (b k hk)⟩

theorem part_get {α : Type} {l : List α} {j m k : Nat} {d : α} (h : k < ((l.drop j).take m).length) : l.getD (j + k) d = ((l.drop j).take m).getD k d := by
  have hk : k < m := by simp at h; omega
  simp [List.getD_eq_getElem?_getD, List.getElem?_take_of_lt hk]

theorem wrapAgg_len {agg : Bool} {l : List AV} {x : AV} (h : wrapAgg agg l = some x) : agg = true ∨ l.length = 1 := by
  unfold wrapAgg at h
  cases agg with
  | true => exact .inl rfl
  | false =>
    split at h
    · simp_all
    · split at h
      · exact .inr rfl
      · simp at h

theorem loadUnder_len {b g' u : Nat} {e i : E} : ∀ {j : Nat} {ts : List Ty}, (loadUnder b g' u e i j ts).length = ts.length
  | _, [] => rfl
  | j, .sl ts :: r => by simp [loadUnder, loadUnder_len]
  | j, .int _ :: r | j, .bool :: r | j, .str :: r | j, .err :: r => by simp [loadUnder, loadUnder_len]

/-- Cells without slices read no block. -/
theorem noSl_fp {w : World} {ow : Bool} : ∀ {ts : List Ty} {vs : List Value} {ds : List D} {f : List Nat}, noSl ts = true → RepC w ow ts vs ds f → f = []
  | _, _, _, _, _, .nil => rfl
  | _, _, _, _, h, .cons h1 h2 => by
    simp only [noSl, List.all_cons, Bool.and_eq_true] at h
    have e2 := noSl_fp (by simpa [noSl] using h.2) h2
    rw [e2]
    cases h1 <;> first | rfl | simp [isSl] at h

theorem avs_loaded : ∀ {l : List AV} {vs : List Value}, AVsOk c l vs → AVsOk c (l.map AV.loaded) vs
  | [], [], _ => trivial
  | x :: l, v :: vs, h => by
    refine ⟨?_, avs_loaded h.2⟩
    have h1 := h.1
    cases x <;> try exact h1
    exact h1.2
  | [], _ :: _, h => h.elim
  | _ :: _, [], h => h.elim

theorem load_ok (s : Sim B c sl a) (hg : (c.den g).b = true) {t : TypeId} {x : Operand} (ho : o.op = .load t x)
    (h : (opEff P sigs clean g o).val sl c.hp = some e) : Does P o a c e := by
  simp only [opEff, ho, Rd.val_bind] at h
  replace h := bind_some h; obtain ⟨ax, hx, h⟩ := h
  have vx := evalG_ok s hg hx
  simp only [loadEff, Rd.val_bind, Rd.val_opt] at h
  replace h := bind_some h; obtain ⟨ts, hts, h⟩ := h
  replace h := bind_some h; obtain ⟨agg, hagg, h⟩ := h
  split at h
  · rename_i b g' off
    simp only [Rd.val_bind, Rd.val_blk, Option.bind_some] at h
    split at h
    case h_2 => simp at h
    rename_i g'' cells hb
    simp only [Rd.val_bind, Rd.val_opt, Rd.if_bind, Bool.and_eq_true, beq_iff_eq, decide_eq_true_eq] at h
    obtain ⟨⟨rfl, hle⟩, h⟩ := h
    replace h := bind_some h; obtain ⟨v, hv, h⟩ := h
    simp at h; subst h
    obtain ⟨vs, T, h1, h2⟩ := s.blks _ _ hb
    have hlen := avs_len h2
    have hok := avs_loaded (avs_take ts.length (avs_drop off h2))
    obtain ⟨k1, k2⟩ := wrapAgg_ok hv hok
    have hvl : ((vs.drop off).take ts.length).length = ts.length := by simp; omega
    refine does_still (load_run hts hagg ho (vx.2.2 _ hb) hvl (by rw [← hvl]; exact k2) (fun k hk => ?_)) k1
    rw [hvl] at hk
    rw [cell_of_row _ _ _ _ _ _ h1]
    simp [List.getElem?_take_of_lt hk]
  · rename_i b g' i j
    simp only [Rd.val_bind, Rd.val_blk, Option.bind_some] at h
    split at h
    case h_2 => simp at h
    rename_i g'' u tsb ex own cl hb
    simp only [Rd.val_bind, Rd.val_opt, Rd.if_bind, Bool.and_eq_true, beq_iff_eq] at h
    obtain ⟨⟨rfl, htb⟩, h⟩ := h
    replace h := bind_some h; obtain ⟨v, hv, h⟩ := h
    simp at h; subst h
    obtain ⟨n, d1, o', len, cap, q1, q2, q3⟩ := vx.2.2 _ _ _ _ _ _ hb
    have hbk := s.blks _ _ hb
    have hr := row_rep hbk
    obtain ⟨d, hd⟩ := rep_isSl hr
    rw [hd, q1] at hr
    have hlen : d.length = len := by obtain ⟨p, k, e1, _⟩ := rep_slice hr; simp at e1; omega
    obtain ⟨b', o2, len2, k2, vs, f, a1, a2, a3, a4, a5, a6, _⟩ := elem_at hr (n := n) (by omega)
    simp only [Value.slice.injEq, Option.some.injEq, Addr.mk.injEq, and_true] at a1
    obtain ⟨⟨rfl, rfl⟩, rfl, rfl⟩ := a1
    obtain ⟨f', c1, c2⟩ := a4.part j ts.length
    have htb' := Ty.eqL htb
    rw [htb'] at c1
    have hvl : ((vs.drop j).take ts.length).length = ts.length := c1.len.1
    have hg2 : ∀ m, m < ((d[n].drop j).take ts.length).length → ((c.den ex).l.getD n []).getD (j + m) default = ((d[n].drop j).take ts.length).getD m default := by
      intro m hm
      rw [hd]
      simp only [D.l_sl, List.getD_eq_getElem?_getD (l := d), List.getElem?_eq_getElem (show n < d.length by omega), Option.getD_some]
      exact part_get hm
    have hold : Holds c.w (c.L b).blk (o' + n * tsb.length + j) ((vs.drop j).take ts.length) := by
      by_cases h0 : ts.length = 0
      · intro k hk; rw [hvl] at hk; omega
      · exact holds_take (holds_drop a3 j (by simp at hvl; omega)) _
    have run := load_run (c := c) hts hagg ho q3 hvl (by
      have := wrapAgg_len hv
      split at this
      · rw [loadUnder_len] at this; exact this
      · rw [loadRo_len] at this; exact this) hold
    obtain ⟨fp0, e1, a5⟩ := a5
    rw [Loc.top_some q1] at e1
    simp only [List.cons_append, List.nil_append, List.cons.injEq, true_and] at e1
    subst e1
    cases own with
    | false =>
      have hok := loadRo_ok (ex := ex) d1 (j := j) c1 (fun k hk => hbk.2.2.1 rfl rfl k (a5 k (c2 k hk))) hg2
      exact does_still run (wrapAgg_ok hv hok).1
    | true =>
      have hok := loadUnder_ok (c := c) (ex := ex) (u := u) (tsr := tsb) (b := b) d1 vx.2.1 (fun u' ts' e' own' cl' hx' => by
        rw [hb] at hx'
        simp only [Option.some.injEq, Blk.row.injEq, true_and, and_true] at hx'
        obtain ⟨rfl, rfl, _⟩ := hx'
        exact ⟨Nat.le_refl _, fun _ => rfl⟩) (j := j) c1 hg2 (fun m v' hm => by
          refine ⟨o', len, cap, q1, q2, ?_⟩
          have hlt : m < ((vs.drop j).take ts.length).length := by
            rcases Nat.lt_or_ge m ((vs.drop j).take ts.length).length with h | h
            · exact h
            · simp only [List.getElem?_eq_none h] at hm; simp at hm
          have := hold m hlt
          rw [hm] at this
          rw [← this]
          congr 2
          omega) (fun m t' hm => by
          rw [← htb'] at hm
          have hlt : m < ts.length := by
            rcases Nat.lt_or_ge m ts.length with h | h
            · exact h
            · rw [List.getElem?_eq_none (by simp; omega)] at hm; simp at hm
          rw [List.getElem?_take_of_lt hlt, List.getElem?_drop] at hm
          exact hm)
      exact does_still run (wrapAgg_ok hv hok).1
  · rename_i tsb ex i j
    simp only [Rd.val_bind, Rd.val_opt, Rd.if_bind] at h
    obtain ⟨htb, h⟩ := h
    replace h := bind_some h; obtain ⟨v, hv, h⟩ := h
    simp at h; subst h
    obtain ⟨b, o', vs, fp, d, n, d1, d2, q3, a3, a4, a5, a6⟩ := vx
    obtain ⟨f', c1, c2⟩ := a4.part j ts.length
    have htb' := Ty.eqL htb
    rw [htb'] at c1
    have hvl : ((vs.drop j).take ts.length).length = ts.length := c1.len.1
    have hold : Holds c.w b (o' + j) ((vs.drop j).take ts.length) := by
      by_cases h0 : ts.length = 0
      · intro k hk; rw [hvl] at hk; omega
      · exact holds_take (holds_drop a3 j (by simp at hvl; omega)) _
    have run := load_run (c := c) hts hagg ho q3 hvl (by have := wrapAgg_len hv; rw [loadRo_len] at this; exact this) hold
    have hok := loadRo_ok (ex := ex) d1 (j := j) c1 (fun k hk => a5 k (List.mem_cons_of_mem _ (c2 k hk))) (fun m hm => by
      simp only [List.getD_eq_getElem?_getD (l := (c.den ex).l), d2, Option.getD_some]
      exact part_get hm)
    exact does_still run (wrapAgg_ok hv hok).1
  · rename_i b g' u i j tsb k m
    simp only [Rd.val_bind, Rd.val_blk, Option.bind_some] at h
    split at h
    case h_2 => simp at h
    rename_i g'' u' tsr ex own cl hb
    simp only [Rd.val_bind, Rd.val_opt, Rd.if_bind, Bool.and_eq_true, Bool.or_eq_true, beq_iff_eq] at h
    obtain ⟨⟨⟨⟨rfl, rfl⟩, htb⟩, hcl⟩, h⟩ := h
    replace h := bind_some h; obtain ⟨v, hv, h⟩ := h
    simp at h; subst h
    have hbk := s.blks _ _ hb
    obtain ⟨p1, p2⟩ := vx.2.2 _ _ _ _ _ hb
    obtain ⟨r1, n, n', r2, r2', vb, vo, vlen, vcap, r3, r4, r5⟩ := p2 rfl
    obtain ⟨f, hf, hsub⟩ := cellAt_rep hbk r3 r1
    rw [← den_cell r2] at hf
    obtain ⟨d, hd⟩ := rep_isSl hf
    rw [hd] at hf
    have hlen : d.length = vlen := by obtain ⟨p, k, e1, _⟩ := rep_slice hf; simp at e1; omega
    obtain ⟨b', o2, len2, k2, vs, f2, a1, a2, a3, a4, ⟨fp0, rfl, a5⟩, a6, _⟩ := elem_at hf (n := n') (by omega)
    simp only [Value.slice.injEq, Option.some.injEq, Addr.mk.injEq, and_true] at a1
    obtain ⟨⟨rfl, rfl⟩, rfl, rfl⟩ := a1
    obtain ⟨f', c1, c2⟩ := a4.part m ts.length
    have htb' := Ty.eqL htb
    rw [htb'] at c1
    have hvl : ((vs.drop m).take ts.length).length = ts.length := c1.len.1
    have hold : Holds c.w vb (vo + n' * tsb.length + m) ((vs.drop m).take ts.length) := by
      by_cases h0 : ts.length = 0
      · intro k hk; rw [hvl] at hk; omega
      · exact holds_take (holds_drop a3 m (by simp at hvl; omega)) _
    have run := load_run (c := c) hts hagg ho r5 hvl (by have := wrapAgg_len hv; rw [loadRo_len] at this; exact this) hold
    have hperm : ∀ q ∈ f', Perm c.hp c.L q := by
      rcases hcl with hcl | hcl
      · have hcl' : cl = false := by simpa using hcl
        subst hcl'
        exact fun q hq => low_perm s hb q (hsub q (List.mem_cons_of_mem _ (a5 q (c2 q hq))))
      · have := noSl_fp hcl c1
        intro q hq
        rw [this] at hq
        exact nomatch hq
    have hok := loadRo_ok (ex := .cell ex i j) r2' (j := m) c1 hperm (fun q hq => by
      rw [hd]
      simp only [D.l_sl, List.getD_eq_getElem?_getD (l := d), List.getElem?_eq_getElem (show n' < d.length by omega), Option.getD_some]
      exact part_get hq)
    exact does_still run (wrapAgg_ok hv hok).1
  · simp at h

end
end Go.Sx
