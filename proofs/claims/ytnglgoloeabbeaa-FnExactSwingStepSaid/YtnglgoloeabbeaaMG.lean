/-
  The machine, part G: the operations that leave the memory alone, the rest of them.
-/
import Derived.Test.YtnglgoloeabbeaaMF
namespace Go.Sx
open Go Go.RowKit
set_option linter.unusedSimpArgs false
set_option linter.unusedVariables false

section
variable {P : Program} {c : Ctx} {sl : Nat → AV} {a : Act} {B : Base} {o : Oper} {sigs : Nat → Option Sig} {clean : List Nat} {g : E} {e : Eff} {pre : Nat → List D → Prop}

theorem assign_ok (s : Sim B c sl a) (hg : (c.den g).b = true) {x : Operand} (ho : o.op = .move x ∨ o.op = .assign x)
    (h : (opEff P sigs clean g o).val sl c.hp = some e) : Does P o a c e := by
  have h' : (evalG g x >>= fun v => (Rd.pure { val := v } : Rd Eff)).val sl c.hp = some e := by
    rcases ho with ho | ho <;> simpa only [opEff, ho] using h
  simp only [Rd.val_bind] at h'
  replace h' := bind_some h'; obtain ⟨y, hy, h'⟩ := h'
  simp at h'; subst h'
  exact move_ok s hg ho hy

theorem pick_ok (s : Sim B c sl a) (hg : (c.den g).b = true) {x y z : Operand} (ho : o.op = .pick x y z)
    (h : (opEff P sigs clean g o).val sl c.hp = some e) (hn : ∀ n ∈ e.need, NeedOk pre c n) : Does P o a c e := by
  simp only [opEff, ho, Rd.val_bind] at h
  replace h := bind_some h; obtain ⟨ax, hx, h⟩ := h
  replace h := bind_some h; obtain ⟨ay, hy, h⟩ := h
  replace h := bind_some h; obtain ⟨az, hz, h⟩ := h
  have vx := evalG_ok s hg hx
  have vy := evalG_ok s hg hy
  have vz := evalG_ok s hg hz
  have run : ∀ b : Bool, a.eval x = .bool b → (execOp a.eval o).run P c.w = .ok (.value (if b then a.eval y else a.eval z)) c.w := by
    intro b hb
    cases b <;> simp [execOp, ho, hb, asBool]
  split at h
  · obtain ⟨b, e1, e2⟩ := sc_bool vx
    simp at h; subst h
    have : b = true := by simpa [denB] using e2.symm
    subst this
    exact does_still (run _ e1) vy
  · obtain ⟨b, e1, e2⟩ := sc_bool vx
    simp at h; subst h
    have : b = false := by simpa [denB] using e2.symm
    subst this
    exact does_still (run _ e1) vz
  · rename_i ec ea eb _ _
    obtain ⟨b, e1, e2⟩ := sc_bool vx
    obtain ⟨m, f1, f2⟩ := sc_bool vy
    obtain ⟨n, g1, g2⟩ := sc_bool vz
    simp at h; subst h
    refine does_still (run _ e1) ?_
    rw [f1, g1]
    cases b
    · exact ok_bool (by simp [den3, e2, f2, g2, evalF, D.b])
    · exact ok_bool (by simp [den3, e2, f2, g2, evalF, D.b])
  · rename_i ec ea q eb _ _
    obtain ⟨b, e1, e2⟩ := sc_bool vx
    obtain ⟨m, f1, f2⟩ := sc_bool vy
    simp at h; subst h
    have h0 := hn _ (List.mem_singleton.2 rfl)
    simp only [NeedOk, E.or, den2, evalF, e2, D.b_bool, Bool.or_eq_true] at h0
    refine does_still (run _ e1) ?_
    rw [f1]
    cases b
    · obtain ⟨n, g1, g2⟩ := sc_bool (vz.1 (by simpa using h0))
      rw [g1]
      exact ok_bool (by simp [den3, e2, f2, g2, evalF, D.b])
    · exact ok_bool (by simp [den3, e2, f2, evalF, D.b])
  · rename_i ec q ea eb _ _
    obtain ⟨b, e1, e2⟩ := sc_bool vx
    obtain ⟨n, g1, g2⟩ := sc_bool vz
    simp at h; subst h
    have h0 := hn _ (List.mem_singleton.2 rfl)
    simp only [NeedOk, E.or, E.not, den1, den2, evalF, e2, D.b_bool, Bool.or_eq_true] at h0
    refine does_still (run _ e1) ?_
    rw [g1]
    cases b
    · exact ok_bool (by simp [den3, e2, g2, evalF, D.b])
    · obtain ⟨m, f1, f2⟩ := sc_bool (vy.1 (by simpa using h0))
      rw [f1]
      exact ok_bool (by simp [den3, e2, f2, evalF, D.b])
  · simp at h

theorem unOp_ok (s : Sim B c sl a) (hg : (c.den g).b = true) {op : UnOp} {t : TypeId} {x : Operand} (ho : o.op = .unOp op t x)
    (h : (opEff P sigs clean g o).val sl c.hp = some e) : Does P o a c e := by
  simp only [opEff, ho, Rd.val_bind] at h
  replace h := bind_some h; obtain ⟨ax, hx, h⟩ := h
  have vx := evalG_ok s hg hx
  split at h
  · obtain ⟨b, e1, e2⟩ := sc_bool vx
    simp at h; subst h
    exact does_still (v := .bool !b) (by simp [execOp, ho, e1, Op.unary]) (ok_bool (by simp [E.not, den1, e2, evalF, D.b]))
  · rename_i k ex
    obtain ⟨n, e1, e2, e3⟩ := sc_int vx
    simp at h; subst h
    exact does_still (v := .int k (k.wrap (0 - n))) (by simp [execOp, ho, e1, Op.unary, Op.intArith]) (ok_int (by simp [den2, denI, e2, evalF, D.i]) (inR_wrap _ _))
  · simp at h

theorem extract_ok (s : Sim B c sl a) (hg : (c.den g).b = true) {i : Nat} {x : Operand} (ho : o.op = .extract x i)
    (h : (opEff P sigs clean g o).val sl c.hp = some e) : Does P o a c e := by
  simp only [opEff, ho, Rd.val_bind] at h
  replace h := bind_some h; obtain ⟨ax, hx, h⟩ := h
  have vx := evalG_ok s hg hx
  split at h
  · rename_i l
    simp only [Rd.val_bind, Rd.val_opt] at h
    replace h := bind_some h; obtain ⟨v, hv, h⟩ := h
    simp at h; subst h
    obtain ⟨vs, e1, e2⟩ := vx
    obtain ⟨u, hu, ok⟩ := avs_get e2 hv
    exact does_still (v := u) (by simp [execOp, ho, e1, Instr.extract, hu]) ok
  · simp at h
where
  avs_get {c : Ctx} : ∀ {l : List AV} {vs : List Value}, AVsOk c l vs → ∀ {i : Nat} {v : AV}, l[i]? = some v → ∃ u, vs[i]? = some u ∧ AVOk c v u
    | [], _, _, i, v, hi => by simp at hi
    | b :: bs, [], hv, i, v, hi => hv.elim
    | b :: bs, u :: us, hv, 0, v, hi => by simp at hi; subst hi; exact ⟨u, rfl, hv.1⟩
    | b :: bs, u :: us, hv, i + 1, v, hi => by
      obtain ⟨u', h1, h2⟩ := avs_get hv.2 (i := i) (v := v) (by simpa using hi)
      exact ⟨u', by simpa using h1, h2⟩

theorem avs_get {l : List AV} {vs : List Value} (h : AVsOk c l vs) {i : Nat} {v : AV} (hi : l[i]? = some v) : ∃ u, vs[i]? = some u ∧ AVOk c v u := extract_ok.avs_get h hi

theorem avs_len : ∀ {l : List AV} {vs : List Value}, AVsOk c l vs → vs.length = l.length
  | [], [], _ => rfl
  | [], _ :: _, h => h.elim
  | _ :: _, [], h => h.elim
  | _ :: _, _ :: _, h => by simp [avs_len h.2]

theorem avs_append : ∀ {l m : List AV} {vs us : List Value}, AVsOk c l vs → AVsOk c m us → AVsOk c (l ++ m) (vs ++ us)
  | [], m, [], us, _, h => h
  | [], _, _ :: _, _, h, _ => h.elim
  | _ :: _, _, [], _, h, _ => h.elim
  | _ :: _, _, _ :: _, _, h, h' => ⟨h.1, avs_append h.2 h'⟩

theorem avs_take : ∀ {l : List AV} {vs : List Value} (n : Nat), AVsOk c l vs → AVsOk c (l.take n) (vs.take n)
  | _, _, 0, _ => by simp [AVsOk]
  | [], [], n + 1, h => by simp [AVsOk]
  | [], _ :: _, _ + 1, h => h.elim
  | _ :: _, [], _ + 1, h => h.elim
  | _ :: _, _ :: _, n + 1, h => ⟨h.1, avs_take n h.2⟩

theorem avs_drop : ∀ {l : List AV} {vs : List Value} (n : Nat), AVsOk c l vs → AVsOk c (l.drop n) (vs.drop n)
  | _, _, 0, h => h
  | [], [], n + 1, h => by simp [AVsOk]
  | [], _ :: _, _ + 1, h => h.elim
  | _ :: _, [], _ + 1, h => h.elim
  | _ :: _, _ :: _, n + 1, h => avs_drop n h.2

/-- The cells of a value, those of an abstract one. -/
theorem cells_ok {x : AV} {v : Value} (h : AVOk c x v) (hp : x.plain = true) : AVsOk c x.cells v.cells.toList := by
  cases x with
  | agg l => obtain ⟨vs, rfl, h2⟩ := h; simpa [AV.cells, Value.cells] using h2
  | maybe q y => simp [AV.plain] at hp
  | undef => simp [AV.plain] at hp
  | skip => simp [AV.plain] at hp
  | tup l => simp [AV.plain] at hp
  | sc t e =>
    have : v.cells = #[v] := by
      have h1 := h.1; have h2 := h.2
      generalize c.den e = d at h2
      cases h2 <;> first | rfl | simp [isSl] at h1
    rw [this]; exact ⟨h, trivial⟩
  | nil =>
    have : v.cells = #[v] := by rw [show v = _ from h]; rfl
    rw [this]; exact ⟨h, trivial⟩
  | ro ts e =>
    have : v.cells = #[v] := by
      obtain ⟨fp, h1, _⟩ := h
      generalize c.den e = d at h1
      cases h1 <;> rfl
    rw [this]; exact ⟨h, trivial⟩
  | orig ts i =>
    have : v.cells = #[v] := by
      obtain ⟨_, fp, h1, _⟩ := h
      generalize c.den (.var i) = d at h1
      cases h1 <;> rfl
    rw [this]; exact ⟨h, trivial⟩
  | row b g => obtain ⟨p, n, k, rfl⟩ := h.1; exact ⟨h, trivial⟩
  | part b g lo hi => obtain ⟨p, n, k, rfl⟩ := h.1; exact ⟨h, trivial⟩
  | under b g u i j ts => obtain ⟨p, n, k, rfl⟩ := h.1; exact ⟨h, trivial⟩
  | ptr b g off => obtain ⟨p, q, rfl⟩ := h.1; exact ⟨h, trivial⟩
  | eptr b g i j => obtain ⟨p, q, rfl⟩ := h.1; exact ⟨h, trivial⟩
  | rptr ts e i j => 
    have h' := h
    obtain ⟨_, _, _, _, _, _, _, _, rfl, _⟩ := h'
    exact ⟨h, trivial⟩
  | uptr b g u i j ts k m => obtain ⟨p, q, rfl⟩ := h.1; exact ⟨h, trivial⟩

/-! ### Types -/

theorem tyOf_size {t : TypeId} {ts : List Ty} (h : tyOf P t = some ts) : ∃ i, P.info? t = some i ∧ i.size = ts.length := by
  unfold tyOf at h
  split at h
  · split at h
    · simp at h; subst h; exact ⟨_, by assumption, by assumption⟩
    · simp at h
  · simp at h

theorem run_sizeOf {t : TypeId} {ts : List Ty} (h : tyOf P t = some ts) (w : World) : (Go.sizeOf t).run P w = .ok ts.length w := by
  obtain ⟨i, h1, h2⟩ := tyOf_size h
  simp [Go.sizeOf, typeInfo, h1, h2]

theorem run_isAgg {t : TypeId} {b : Bool} (h : aggOf P t = some b) (w : World) : (isAgg t).run P w = .ok b w := by
  unfold aggOf at h
  split at h <;> simp at h
  · subst h; rename_i hu; simp [isAgg, run_underlying hu]
  · subst h
    rename_i d h1 h2 hu
    unfold isAgg
    simp only [Sem.run_bind, run_underlying hu, Result.andThen_ok]
    cases d <;> simp_all

theorem elemOf_spec {t et : TypeId} {ts : List Ty} (h : elemOf P t = some (et, ts)) : P.underlying t = some (.slice et) ∧ tyOf P et = some ts := by
  unfold elemOf at h
  split at h
  · rename_i e hu
    cases h' : tyOf P e with
    | none => simp [h'] at h
    | some us => simp [h'] at h; obtain ⟨rfl, rfl⟩ := h; exact ⟨hu, h'⟩
  · simp at h

/-- A variable of this many cells: its value. -/
def varVal (agg : Bool) (vs : List Value) : Value := if agg then .agg vs.toArray else vs.headD Go.undef

theorem addr_add (b o n : Nat) : (Addr.add ⟨b, o, none⟩ n) = ⟨b, o + n, none⟩ := by
  simp only [Addr.add]; split
  · rename_i h; simp [h]
  · rfl

theorem run_loadVar {t : TypeId} {agg : Bool} {ts : List Ty} (ht : tyOf P t = some ts) (ha : aggOf P t = some agg) {w : World} {b o : Nat} {vs : List Value} (hl : vs.length = ts.length) (h1 : agg = true ∨ ts.length = 1)
    (h : Holds w b o vs) : (loadVar t ⟨b, o, none⟩).run P w = .ok (varVal agg vs) w := by
  unfold loadVar
  simp only [Sem.run_bind, run_isAgg ha, Result.andThen_ok]
  cases agg with
  | true =>
    have hc := run_loadCells_list (P := P) w ⟨b, o, none⟩ vs (fun j v hj => by
      have hlt : j < vs.length := by
        rcases Nat.lt_or_ge j vs.length with h | h
        · exact h
        · simp [List.getElem?_eq_none h] at hj
      rw [addr_add, h j hlt, hj])
    rw [hl] at hc
    simp [run_sizeOf ht, hc, varVal]
  | false =>
    have h1' : vs.length = 1 := by rw [hl]; simpa using h1
    obtain ⟨v, rfl⟩ : ∃ v, vs = [v] := by
      match vs, h1' with
      | [v], _ => exact ⟨v, rfl⟩
    have := h 0 (by simp)
    simp at this
    simp [this, varVal]

theorem wrapAgg_ok {agg : Bool} {l : List AV} {x : AV} {vs : List Value} (h : wrapAgg agg l = some x) (hv : AVsOk c l vs) : AVOk c x (varVal agg vs) ∧ (agg = true ∨ vs.length = 1) := by
  unfold wrapAgg at h
  cases agg with
  | true => simp at h; subst h; exact ⟨⟨vs, rfl, hv⟩, .inl rfl⟩
  | false =>
    split at h
    · simp_all
    · split at h
      · rename_i y
        simp at h; subst h
        match vs, hv with
        | [v], hv => exact ⟨hv.1, .inr rfl⟩
        | [], hv => exact hv.elim
        | _ :: _ :: _, hv => exact hv.2.elim
      · simp at h

/-! ### Addresses -/

theorem fieldAddr_ok (s : Sim B c sl a) (hg : (c.den g).b = true) {t : TypeId} {x : Operand} {f : Nat} (ho : o.op = .fieldAddr t x f)
    (h : (opEff P sigs clean g o).val sl c.hp = some e) : Does P o a c e := by
  simp only [opEff, ho, Rd.val_bind, Rd.val_opt] at h
  replace h := bind_some h; obtain ⟨⟨off, ft⟩, hf, h⟩ := h
  replace h := bind_some h; obtain ⟨ax, hx, h⟩ := h
  have vx := evalG_ok s hg hx
  unfold fieldOff at hf
  split at hf
  case h_2 => simp at hf
  rename_i fs hu
  split at hf
  case h_2 => simp at hf
  rename_i fd hfd
  split at hf
  case h_2 => simp at hf
  rename_i i hi
  split at hf
  · simp at hf
  rename_i hsz
  simp only [Option.some.injEq, Prod.mk.injEq] at hf
  obtain ⟨rfl, rfl⟩ := hf
  have run : ∀ b o', a.eval x = .pointer (some ⟨b, o', none⟩) → (execOp a.eval o).run P c.w = .ok (.value (.pointer (some ⟨b, o' + fd.offset, none⟩))) c.w := by
    intro b o' hb
    simp [execOp, ho, hb, Instr.fieldAt, run_underlying hu, hfd, Instr.sureAddr, fieldPlace, Go.sizeOf, typeInfo, hi, hsz, addr_add]
  split at h <;> simp at h
  · subst h
    rename_i b g' j
    obtain ⟨p, q, hp⟩ := vx.1
    refine does_still (run _ _ hp) ⟨⟨_, _, rfl⟩, vx.2.1, fun cells hb => ?_⟩
    have := vx.2.2 cells hb
    rw [hp] at this
    simp only [Value.pointer.injEq, Option.some.injEq, Addr.mk.injEq, and_true] at this ⊢
    exact ⟨this.1, by omega⟩
  · subst h
    rename_i b g' i' j
    obtain ⟨p, q, hp⟩ := vx.1
    refine does_still (run _ _ hp) ⟨⟨_, _, rfl⟩, vx.2.1, fun u ts e own clean live hb => ?_⟩
    obtain ⟨n, h1, o', len, cap, h2, h3, h4⟩ := vx.2.2 _ _ _ _ _ _ hb
    refine ⟨n, h1, o', len, cap, h2, h3, ?_⟩
    rw [hp] at h4
    simp only [Value.pointer.injEq, Option.some.injEq, Addr.mk.injEq, and_true] at h4 ⊢
    exact ⟨h4.1, by omega⟩
  · subst h
    obtain ⟨b, o', vs, fp, d, n, h1, h2, h3, h4, h5, h6, h7⟩ := vx
    exact does_still (run _ _ h3) ⟨b, o', vs, fp, d, n, h1, h2, by simp; omega, h4, h5, h6, h7⟩
  · subst h
    rename_i b g' u i' j ts k m
    obtain ⟨p, q, hp⟩ := vx.1
    refine does_still (run _ _ hp) ⟨⟨_, _, rfl⟩, vx.2.1, fun u' tsr e own clean hb => ?_⟩
    obtain ⟨h1, h2⟩ := vx.2.2 _ _ _ _ _ hb
    refine ⟨h1, fun hu' => ?_⟩
    obtain ⟨a1, n, n', a2, a3, vb, vo, vlen, vcap, a4, a5, a6⟩ := h2 hu'
    refine ⟨a1, n, n', a2, a3, vb, vo, vlen, vcap, a4, a5, ?_⟩
    rw [hp] at a6
    simp only [Value.pointer.injEq, Option.some.injEq, Addr.mk.injEq, and_true] at a6 ⊢
    exact ⟨a6.1, by omega⟩

theorem nilCheck_ok (s : Sim B c sl a) (hg : (c.den g).b = true) {x : Operand} (ho : o.op = .nilCheck x)
    (h : (opEff P sigs clean g o).val sl c.hp = some e) : Does P o a c e := by
  simp only [opEff, ho, Rd.val_bind] at h
  replace h := bind_some h; obtain ⟨ax, hx, h⟩ := h
  have vx := evalG_ok s hg hx
  have run : ∀ b o', a.eval x = .pointer (some ⟨b, o', none⟩) → (execOp a.eval o).run P c.w = .ok (.value (a.eval x)) c.w := by
    intro b o' hb
    simp [execOp, ho, hb]
  split at h <;> simp at h <;> subst h
  · obtain ⟨p, q, hp⟩ := vx.1
    exact does_still (run _ _ hp) vx
  · obtain ⟨p, q, hp⟩ := vx.1
    exact does_still (run _ _ hp) vx
  · have vx' := vx
    obtain ⟨b, o', vs, fp, d, n, h1, h2, h3, _⟩ := vx'
    exact does_still (run _ _ h3) vx
  · obtain ⟨p, q, hp⟩ := vx.1
    exact does_still (run _ _ hp) vx

theorem scI_ok {sl0 : Nat → AV} {hp0 : Nat → Option Blk} {v : AV} {q : IntKind × E} (h : (scI v).val sl0 hp0 = some q) : v = .sc (.int q.1) q.2 := by
  unfold scI at h
  split at h
  · simp at h; subst h; rfl
  · simp at h

theorem isStr_ok {t : TypeId} (h : isStr P t = true) : P.underlying t = some .string := by
  unfold isStr at h
  split at h
  · assumption
  · simp at h

theorem need_le {x y : E} {m n : Int} (hx : c.den x = .int m) (hy : c.den y = .int n) (h : NeedOk pre c (.e (.le x y))) : m ≤ n := by
  simpa [NeedOk, E.le, den2, hx, hy, evalF] using h
theorem need_lt {x y : E} {m n : Int} (hx : c.den x = .int m) (hy : c.den y = .int n) (h : NeedOk pre c (.e (.lt x y))) : m < n := by
  simpa [NeedOk, E.lt, den2, hx, hy, evalF] using h

theorem den_len {x : E} {d : List (List D)} (h : c.den x = .sl d) : c.den (.len x) = .int d.length := by simp [E.len, den1, h, evalF]
theorem den_slen {x : E} {d : List UInt8} (h : c.den x = .str d) : c.den (.app .slen [x]) = .int d.length := by simp [den1, h, evalF]

theorem index_ok (s : Sim B c sl a) (hg : (c.den g).b = true) {t : TypeId} {x i : Operand} (ho : o.op = .index t x i)
    (h : (opEff P sigs clean g o).val sl c.hp = some e) (hn : ∀ n ∈ e.need, NeedOk pre c n) : Does P o a c e := by
  simp only [opEff, ho, Rd.val_bind] at h
  replace h := bind_some h; obtain ⟨ax, hx, h⟩ := h
  have vx := evalG_ok s hg hx
  split at h
  case h_2 => simp at h
  rename_i ex
  simp only [Rd.val_bind, Rd.if_bind] at h
  obtain ⟨hs, h⟩ := h
  replace h := bind_some h; obtain ⟨ai, hi, h⟩ := h
  replace h := bind_some h; obtain ⟨⟨k, ei⟩, hq, h⟩ := h
  have vi := evalG_ok s hg hi
  rw [scI_ok hq] at vi
  simp at h; subst h
  obtain ⟨str, e1, e2, e3⟩ := sc_str vx
  obtain ⟨n, f1, f2, f3⟩ := sc_int vi
  have h0 := need_le denI f2 (hn (.e (.le (.int 0) ei)) (by simp))
  have h1 := need_lt f2 (den_slen e2) (hn (.e (.lt ei (.app .slen [ex]))) (by simp))
  have hlt : n.toNat < str.size := by
    have : str.data.toList.length = str.size := by simp
    omega
  refine does_still (v := .int .u8 (str.data.toList.getD n.toNat 0).toNat) ?_ (ok_int (by simp [den2, e2, f2, evalF]) ?_)
  · have hget : str[n.toNat]? = some str[n.toNat] := by simp [hlt]
    simp [execOp, ho, e1, f1, Instr.index, asIntOf, run_underlying (isStr_ok hs), h0, hget]
    rw [Array.getElem?_eq_getElem (show n.toNat < str.data.size from hlt)]
    rfl
  · rw [inR_iff]
    have : (str.data.toList.getD n.toNat 0).toNat < 256 := UInt8.toNat_lt _
    simp [IntKind.min, IntKind.max, IntKind.signed, IntKind.bits]
    simp at this
    omega

theorem mapRd_ok {α : Type} (s : Sim B c sl a) (hg : (c.den g).b = true) : ∀ {l : List Operand} {vs : List AV}, (mapRd (evalG g) l).val sl c.hp = some vs → AVsOk c vs (l.map a.eval)
  | [], vs, h => by simp [mapRd] at h; subst h; trivial
  | x :: l, vs, h => by
    simp only [mapRd, Rd.val_bind] at h
    replace h := bind_some h; obtain ⟨v, hv, h⟩ := h
    replace h := bind_some h; obtain ⟨us, hu, h⟩ := h
    simp at h; subst h
    exact ⟨evalG_ok s hg hv, mapRd_ok (α := α) s hg hu⟩

theorem rep_slice {ow : Bool} {ts : List Ty} {v : Value} {d : D} {fp : List Nat} {w : World} (h : Rep w ow (.sl ts) v d fp) : ∃ p k, v = .slice p d.l.length k ∧ d.l.length ≤ k ∧ k < 9223372036854775808 := by
  cases h with
  | nil => exact ⟨none, 0, rfl, by simp, by omega⟩
  | emp _ h => exact ⟨_, _, rfl, by simp, h⟩
  | sl _ h2 h3 h4 => subst h2; exact ⟨_, _, rfl, h3, h4⟩

/-- The pieces of a call of a builtin. -/
theorem builtin_run {cc : Call} {b : Builtin} {v : Value} {w : World} (ho : o.op = .call cc) (hc : cc.callee = .builtin b)
    (h : ∀ cs, (builtin b cc.argTypes o.type cs (cc.args.map a.eval)).run P c.w = .ok (.value v) w) : (execOp a.eval o).run P c.w = .ok (.value v) w := by
  simp [execOp, ho, resolve, hc, invoke, h]

theorem len_ok (s : Sim B c sl a) (hg : (c.den g).b = true) {cc : Call} (ho : o.op = .call cc) (hc : cc.callee = .builtin .len)
    (h : (opEff P sigs clean g o).val sl c.hp = some e) : Does P o a c e := by
  simp only [opEff, ho, hc, Rd.val_bind] at h
  replace h := bind_some h; obtain ⟨vs, hv, h⟩ := h
  have hvs := mapRd_ok (α := Unit) s hg hv
  have hargs : cc.args.map a.eval = (cc.args.toList.map a.eval).toArray := by rw [← Array.toList_map, Array.toArray_toList]
  split at h
  · rename_i ex
    simp only [Rd.val_bind, Rd.val_opt] at h
    replace h := bind_some h; obtain ⟨t, ht, h⟩ := h
    simp only [Rd.if_bind] at h
    obtain ⟨hs, h⟩ := h
    simp at h; subst h
    obtain ⟨v0, hv0⟩ : ∃ v0, cc.args.toList.map a.eval = [v0] := by
      match h' : cc.args.toList.map a.eval, hvs with
      | [v0], _ => exact ⟨v0, rfl⟩
      | [], hvs => exact hvs.elim
      | _ :: _ :: _, hvs => exact hvs.2.elim
    rw [hv0] at hvs hargs
    obtain ⟨str, e1, e2, e3⟩ := sc_str hvs.1
    refine does_still (v := .int .i64 str.size) (builtin_run ho hc fun cs => ?_) (ok_int (by rw [den_slen e2]; simp) ?_)
    · rw [hargs, e1]
      simp [builtin, Builtin.len_, ht, run_underlying (isStr_ok hs), goInt]
    · rw [inR_iff]; simp [IntKind.min, IntKind.max, IntKind.signed, IntKind.bits]; omega
  · rename_i v _
    simp only [Rd.val_bind, Rd.val_opt] at h
    replace h := bind_some h; obtain ⟨t, ht, h⟩ := h
    replace h := bind_some h; obtain ⟨⟨et, ts⟩, he, h⟩ := h
    replace h := bind_some h; obtain ⟨ex, hx, h⟩ := h
    simp at h; subst h
    obtain ⟨v0, hv0⟩ : ∃ v0, cc.args.toList.map a.eval = [v0] := by
      match h' : cc.args.toList.map a.eval, hvs with
      | [v0], _ => exact ⟨v0, rfl⟩
      | [], hvs => exact hvs.elim
      | _ :: _ :: _, hvs => exact hvs.2.elim
    rw [hv0] at hvs hargs
    obtain ⟨fp, hr⟩ := viewSl_ok s hx hvs.1
    obtain ⟨p, k, e1, e2, e3⟩ := rep_slice hr
    obtain ⟨d, hd⟩ : ∃ d, c.den ex = .sl d := by
      generalize c.den ex = q at hr
      cases hr <;> exact ⟨_, rfl⟩
    obtain ⟨hu, _⟩ := elemOf_spec he
    refine does_still (v := .int .i64 d.length) (builtin_run ho hc fun cs => ?_) (ok_int (den_len hd) ?_)
    · rw [hargs, e1, hd]
      simp [builtin, Builtin.len_, ht, run_underlying hu, goInt]
    · rw [hd] at e2
      simp only [D.l_sl] at e2
      rw [inR_iff]; simp [IntKind.min, IntKind.max, IntKind.signed, IntKind.bits]; omega
  · simp at h

theorem inR_of {k : IntKind} {m n : Int} (hm : inR k m = true) (hn : inR k n = true) (b : Prop) [Decidable b] : inR k (if b then n else m) = true := by split <;> assumption

theorem minmax_ok (s : Sim B c sl a) (hg : (c.den g).b = true) {cc : Call} (ho : o.op = .call cc) (hc : cc.callee = .builtin .min ∨ cc.callee = .builtin .max)
    (h : (opEff P sigs clean g o).val sl c.hp = some e) : Does P o a c e := by
  have hargs : cc.args.map a.eval = (cc.args.toList.map a.eval).toArray := by rw [← Array.toList_map, Array.toArray_toList]
  rcases hc with hc | hc
  · simp only [opEff, ho, hc, Rd.val_bind] at h
    replace h := bind_some h; obtain ⟨vs, hv, h⟩ := h
    have hvs := mapRd_ok (α := Unit) s hg hv
    split at h
    case h_2 => simp at h
    rename_i k ea k' eb
    simp only [Rd.val_bind, Rd.if_bind, decide_eq_true_eq] at h
    obtain ⟨rfl, h⟩ := h
    simp at h; subst h
    obtain ⟨v0, v1, hv0⟩ : ∃ v0 v1, cc.args.toList.map a.eval = [v0, v1] := by
      match h' : cc.args.toList.map a.eval, hvs with
      | [v0, v1], _ => exact ⟨v0, v1, rfl⟩
      | [], hvs => exact hvs.elim
      | [_], hvs => exact hvs.2.elim
      | _ :: _ :: _ :: _, hvs => exact hvs.2.2.elim
    rw [hv0] at hvs hargs
    obtain ⟨m, rfl, dm, rm⟩ := sc_int hvs.1
    obtain ⟨n, rfl, dn, rn⟩ := sc_int hvs.2.1
    refine does_still (v := .int k (if n < m then n else m)) (builtin_run ho hc fun cs => ?_) (ok_int (by simp [den2, dm, dn, evalF]) (inR_of rm rn _))
    rw [hargs]
    simp [builtin, Builtin.min_, Builtin.min2]
  · simp only [opEff, ho, hc, Rd.val_bind] at h
    replace h := bind_some h; obtain ⟨vs, hv, h⟩ := h
    have hvs := mapRd_ok (α := Unit) s hg hv
    split at h
    · rename_i k ea k' eb
      simp only [Rd.val_bind, Rd.if_bind, decide_eq_true_eq] at h
      obtain ⟨rfl, h⟩ := h
      simp at h; subst h
      obtain ⟨v0, v1, hv0⟩ : ∃ v0 v1, cc.args.toList.map a.eval = [v0, v1] := by
        match h' : cc.args.toList.map a.eval, hvs with
        | [v0, v1], _ => exact ⟨v0, v1, rfl⟩
        | [], hvs => exact hvs.elim
        | [_], hvs => exact hvs.2.elim
        | _ :: _ :: _ :: _, hvs => exact hvs.2.2.elim
      rw [hv0] at hvs hargs
      obtain ⟨m, rfl, dm, rm⟩ := sc_int hvs.1
      obtain ⟨n, rfl, dn, rn⟩ := sc_int hvs.2.1
      refine does_still (v := .int k (if n > m then n else m)) (builtin_run ho hc fun cs => ?_) (ok_int (by simp [den2, dm, dn, evalF]) (inR_of rm rn _))
      rw [hargs]
      simp [builtin, Builtin.max_, Builtin.max2]
    · rename_i k ea k' eb k2 ec
      simp only [Rd.val_bind, Rd.if_bind, Bool.and_eq_true, decide_eq_true_eq] at h
      obtain ⟨⟨rfl, rfl⟩, h⟩ := h
      simp at h; subst h
      obtain ⟨v0, v1, v2, hv0⟩ : ∃ v0 v1 v2, cc.args.toList.map a.eval = [v0, v1, v2] := by
        match h' : cc.args.toList.map a.eval, hvs with
        | [v0, v1, v2], _ => exact ⟨v0, v1, v2, rfl⟩
        | [], hvs => exact hvs.elim
        | [_], hvs => exact hvs.2.elim
        | [_, _], hvs => exact hvs.2.2.elim
        | _ :: _ :: _ :: _ :: _, hvs => exact hvs.2.2.2.elim
      rw [hv0] at hvs hargs
      obtain ⟨m, rfl, dm, rm⟩ := sc_int hvs.1
      obtain ⟨n, rfl, dn, rn⟩ := sc_int hvs.2.1
      obtain ⟨q, rfl, dq, rq⟩ := sc_int hvs.2.2.1
      refine does_still (v := .int k (if q > (if n > m then n else m) then q else (if n > m then n else m))) (builtin_run ho hc fun cs => ?_)
        (ok_int (by simp [den2, dm, dn, dq, evalF]) (inR_of (inR_of rm rn _) rq _))
      rw [hargs]
      simp [builtin, Builtin.max_, Builtin.max2]
    · simp at h

theorem repL_ints {k : IntKind} {w : World} {ow : Bool} : ∀ {vs : List Value} {l : List (List D)} {fp : List Nat}, RepL w ow [.int k] vs l fp →
    ∃ ns : List Int, vs = ns.map (Value.int k) ∧ l = ns.map (fun n => [D.int n]) ∧ fp = [] ∧ ∀ n ∈ ns, inR k n = true
  | _, _, _, .nil => ⟨[], rfl, rfl, rfl, fun n hn => nomatch hn⟩
  | _, _, _, .cons h1 h2 => by
    obtain ⟨ns, rfl, rfl, rfl, h⟩ := repL_ints h2
    cases h1 with
    | cons h3 h4 =>
      cases h4
      cases h3
      rename_i n hn
      exact ⟨n :: ns, rfl, rfl, rfl, fun m hm => by
        rcases List.mem_cons.1 hm with rfl | hm
        · exact hn
        · exact h m hm⟩

theorem push_all : ∀ (ns : List Int) (r : ByteArray), (ns.foldl (fun r n => r.push (UInt8.ofNat n.toNat)) r).data.toList = r.data.toList ++ ns.map fun n => UInt8.ofNat n.toNat
  | [], r => by simp
  | n :: ns, r => by
    rw [List.foldl_cons, push_all ns]
    simp [ByteArray.push]

theorem bytes_run {w : World} {v : Value} {d : D} {fp : List Nat} (hr : Rep w false (.sl [.int .u8]) v d fp) :
    ∃ str : ByteArray, (Conv.bytesToString v).run P w = .ok (.string str) w ∧ str.data.toList = d.l.map (fun q => UInt8.ofNat (q.getD 0 default).i.toNat) ∧ str.size < 9223372036854775808 := by
  cases hr with
  | nil => exact ⟨.empty, by simp [Conv.bytesToString], rfl, by simp⟩
  | emp _ h =>
    refine ⟨.empty, ?_, rfl, by simp⟩
    simp [Conv.bytesToString, loadCells, loadCellsFrom]
  | sl h1 h2 h3 h4 h5 h6 h7 =>
    rename_i b o len cap vs l fp
    obtain ⟨ns, rfl, rfl, rfl, hns⟩ := repL_ints h7
    have hl : len = ns.length := by simpa using h2.symm
    subst hl
    have hload := run_loadCells_list (P := P) w ⟨b, o, none⟩ (ns.map (Value.int .u8)) (fun j v hj => by
      have hlt : j < (ns.map (Value.int .u8)).length := by
        rcases Nat.lt_or_ge j (ns.map (Value.int .u8)).length with h | h
        · exact h
        · simp only [List.getElem?_eq_none h] at hj; simp at hj
      rw [addr_add, h1 j hlt, hj])
    rw [List.length_map] at hload
    refine ⟨_, run_bytesToString w _ _ _ ns hload, ?_, ?_⟩
    · rw [push_all]
      simp
    · have := congrArg List.length (push_all ns .empty)
      simp at this
      simp [this]
      omega

theorem convert_ok (s : Sim B c sl a) (hg : (c.den g).b = true) {src dst : TypeId} {x : Operand} (ho : o.op = .convert src dst x)
    (h : (opEff P sigs clean g o).val sl c.hp = some e) : Does P o a c e := by
  simp only [opEff, ho, Rd.val_bind] at h
  replace h := bind_some h; obtain ⟨ax, hx, h⟩ := h
  have vx := evalG_ok s hg hx
  split at h
  · rename_i d0 k k' ex h1 h2
    obtain ⟨n, e1, e2, e3⟩ := sc_int vx
    simp at h; subst h
    refine does_still (v := .int k (k.wrap n)) ?_ (ok_int (by simp [den1, e2, evalF]) (inR_wrap _ _))
    simp [execOp, ho, e1, convert, run_underlying h1, run_underlying h2, Conv.intToInt]
  · rename_i _ et h1 h2
    simp only [Rd.val_bind, Rd.if_bind] at h
    obtain ⟨hu8, h⟩ := h
    replace h := bind_some h; obtain ⟨ex, hv, h⟩ := h
    simp at h; subst h
    have hu : P.underlying et = some (.int .u8) := by revert hu8; split <;> simp_all
    obtain ⟨fp, hr⟩ := viewSl_ok s hv vx
    have key : ∃ str : ByteArray, (Conv.bytesToString (a.eval x)).run P c.w = .ok (.string str) c.w ∧ str.data.toList = (c.den ex).l.map (fun q => UInt8.ofNat (q.getD 0 default).i.toNat) ∧ str.size < 9223372036854775808 := bytes_run hr
    obtain ⟨str, k1, k2, k3⟩ := key
    have hval : ∃ p n k, a.eval x = .slice p n k := by obtain ⟨p, k, e1, _⟩ := rep_slice hr; exact ⟨_, _, _, e1⟩
    obtain ⟨p, n, k, hpn⟩ := hval
    refine does_still (v := .string str) ?_ (ok_str (by rw [den1]; simp [evalF, k2]) k3)
    rw [hpn] at k1
    simp [execOp, ho, hpn, run_convert_bytes_string (P := P) c.w src dst et p n k h1 hu h2, k1]
  · simp at h

end
end Go.Sx
