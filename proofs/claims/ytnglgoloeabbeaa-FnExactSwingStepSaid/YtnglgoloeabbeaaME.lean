/-
  The machine, part E: what a look comes to; operands; the operations that leave the memory alone.
-/
import Derived.Test.YtnglgoloeabbeaaMD
import Derived.Laws.Sem
import Derived.Laws.World
import Derived.Laws.Cells
import Derived.Laws.Rows
import Derived.Laws.Slices
import Derived.Laws.Strings
import Derived.Laws.Append
import Derived.Laws.BytesString
import Derived.Laws.Entries
import Derived.Laws.CopyRow
namespace Go.Sx
open Go Go.RowKit
set_option linter.unusedSimpArgs false
set_option linter.unusedVariables false

/-! ### What a look comes to -/

section
variable {α β : Type} {sl : Nat → AV} {hp : Nat → Option Blk}

theorem Rd.run_bind (x : Rd α) (f : α → Rd β) : (x.bind f).run sl hp = (x.run sl hp).bind fun p => ((f p.1).run sl hp).map fun q => (q.1, p.2 ++ q.2) := by
  induction x with
  | pure a => cases h : (f a).run sl hp <;> simp [Rd.bind, Rd.run, h]
  | fail => simp [Rd.bind, Rd.run]
  | slot t k ih =>
    simp only [Rd.bind, Rd.run, ih]
    cases (k (sl t)).run sl hp with
    | none => rfl
    | some p =>
      simp only [Option.bind_some]
      cases h : (f p.1).run sl hp <;> simp [h]
  | blk b k ih =>
    simp only [Rd.bind, Rd.run, ih]
    cases (k (hp b)).run sl hp with
    | none => rfl
    | some p =>
      simp only [Option.bind_some]
      cases h : (f p.1).run sl hp <;> simp [h]

@[simp] theorem Rd.val_bind (x : Rd α) (f : α → Rd β) : (x >>= f).val sl hp = (x.val sl hp).bind fun a => (f a).val sl hp := by
  show (x.bind f).val sl hp = _
  unfold Rd.val
  rw [Rd.run_bind]
  cases h : x.run sl hp with
  | none => simp
  | some p => cases h' : (f p.1).run sl hp <;> simp [h']
@[simp] theorem Rd.val_pure (a : α) : (Rd.pure a).val sl hp = some a := rfl
@[simp] theorem Rd.val_pure' (a : α) : (Pure.pure a : Rd α).val sl hp = some a := rfl
@[simp] theorem Rd.val_fail : (Rd.fail : Rd α).val sl hp = none := rfl
@[simp] theorem Rd.val_slot (t : Nat) : (rdSlot t).val sl hp = some (sl t) := rfl
@[simp] theorem Rd.val_blk (b : Nat) : (rdBlk b).val sl hp = some (hp b) := rfl
@[simp] theorem Rd.val_opt (x : Option α) : (rdOpt x).val sl hp = x := by cases x <;> rfl
theorem Rd.val_if (b : Bool) : (rdIf b).val sl hp = if b then some () else none := by cases b <;> rfl
@[simp] theorem Rd.val_if_some (b : Bool) (u : Unit) : (rdIf b).val sl hp = some u ↔ b = true := by cases b <;> simp [rdIf]

@[simp] theorem Rd.if_bind (b : Bool) (f : Unit → Option β) (y : β) : ((rdIf b).val sl hp).bind f = some y ↔ b = true ∧ f () = some y := by
  cases b <;> simp [rdIf]
theorem bind_some {x : Option α} {f : α → Option β} {b : β} (h : x.bind f = some b) : ∃ a, x = some a ∧ f a = some b := by
  cases x with
  | none => simp at h
  | some a => exact ⟨a, rfl, h⟩
end

/-! ### Operands -/

section
variable {c : Ctx} {sl : Nat → AV} {a : Act} {B : Base}

theorem inR_iff {k : IntKind} {n : Int} : inR k n = true ↔ k.min ≤ n ∧ n ≤ k.max := by simp [inR]

theorem rep_sc {t : Ty} {e : E} {v : Value} (h : AVOk c (.sc t e) v) : Rep c.w false t v (c.den e) [] := h.2

theorem const_ok {v : Value} {x : AV} (h : constAV v = some x) : AVOk c x v := by
  cases v <;> simp only [constAV] at h
  case int k n =>
    split at h
    · simp at h; subst h; exact ⟨rfl, .int (by assumption)⟩
    · simp at h
  case bool b => simp at h; subst h; exact ⟨rfl, .bool⟩
  case string s =>
    split at h
    · simp at h; subst h; exact ⟨rfl, .str (by omega)⟩
    · simp at h
  case slice p l k =>
    split at h <;> simp_all
    subst h
    exact rfl
  case nilIface => simp at h; subst h; exact ⟨rfl, .err0⟩
  case pointer p => cases p <;> simp at h; subst h; trivial
  all_goals simp at h

theorem evalO_ok (s : Sim B c sl a) {x : Operand} {v : AV} (h : (evalO x).val sl c.hp = some v) : AVOk c v (a.eval x) := by
  cases x with
  | tmp t => simp [evalO] at h; subst h; exact s.slots t
  | const u => simp [evalO] at h; exact const_ok h
  | global g => simp [evalO] at h
  | func f => simp [evalO] at h

theorem implied_ok {e : E} : ∀ (n : Nat) {g : E}, implied e n g = true → (c.den g).b = true → (c.den e).b = true
  | 0, g, h, hg => by simp only [implied] at h; rw [E.eq_of_beq h]; exact hg
  | n + 1, g, h, hg => by
    simp only [implied, Bool.or_eq_true] at h
    rcases h with h | h
    · rw [E.eq_of_beq h]; exact hg
    · split at h
      · refine implied_ok n h ?_
        simp only [Ctx.den, Sx.den, denL, evalF, D.b, Bool.and_eq_true] at hg ⊢
        exact hg.1
      · simp at h

theorem evalG_ok (s : Sim B c sl a) {g : E} (hg : (c.den g).b = true) {x : Operand} {v : AV} (h : (evalG g x).val sl c.hp = some v) : AVOk c v (a.eval x) := by
  simp only [evalG, Rd.val_bind] at h
  obtain ⟨u, h1, h2⟩ := bind_some h
  have hu := evalO_ok s h1
  split at h2
  · rename_i e y
    simp at h2
    subst h2
    split
    · rename_i hi; exact hu.1 (implied_ok _ hi hg)
    · exact hu
  · simp at h2; subst h2; exact hu


/-! ### Views -/

theorem Loc.top_some {l : Loc} {p : Addr} {n k : Nat} (h : l.hdr = .slice (some p) n k) : l.top = [l.blk] := by simp [Loc.top, h]
theorem Loc.top_none {l : Loc} {n k : Nat} (h : l.hdr = .slice none n k) : l.top = [] := by simp [Loc.top, h]

theorem row_rep {g u : Nat} {ts : List Ty} {e : E} {own clean live : Bool} {l : Loc} (h : BlkOk c (.row g u ts e own clean live) l) :
    Rep c.w false (.sl ts) l.hdr (c.den e) (l.top ++ l.fp) := by
  obtain ⟨⟨d, h0, h1⟩, _⟩ := h
  rw [h0]
  rcases h1 with ⟨e1, e2, e3⟩ | ⟨o, len, cap, vs, e1, e2, e3, e4, e5, e6, e7, e8⟩
  · rw [e1, e2, e3, Loc.top_none e1]; exact .nil
  · rw [Loc.top_some e1, e1]; exact .sl e2 e3 e4 e5 (fun o => nomatch o) e7 e8.ro

theorem row_rep_own {g u : Nat} {ts : List Ty} {e : E} {clean : Bool} {l : Loc} (h : BlkOk c (.row g u ts e true clean true) l) :
    Rep c.w true (.sl ts) l.hdr (c.den e) (l.top ++ l.fp) := by
  obtain ⟨⟨d, h0, h1⟩, _⟩ := h
  rw [h0]
  rcases h1 with ⟨e1, e2, e3⟩ | ⟨o, len, cap, vs, e1, e2, e3, e4, e5, e6, e7, e8⟩
  · rw [e1, e2, e3, Loc.top_none e1]; exact .nil
  · rw [Loc.top_some e1, e1]; exact .sl e2 e3 e4 e5 (fun _ => e6 rfl) e7 e8

theorem RepL.take {w : World} {ow : Bool} {ts : List Ty} {vs : List Value} {l : List (List D)} {fp : List Nat} (h : RepL w ow ts vs l fp) (lo hi : Nat) :
    ∃ f, (∀ k ∈ f, k ∈ fp) ∧ RepL w ow ts ((vs.take (hi * ts.length)).drop (lo * ts.length)) ((l.take hi).drop lo) f ∧ f.Sublist fp := by
  obtain ⟨f, g, rfl, a, _⟩ := h.split hi
  obtain ⟨f', g', rfl, _, b⟩ := a.split lo
  exact ⟨g', fun k hk => by simp [hk], b, (List.sublist_append_right _ _).trans (List.sublist_append_left _ _)⟩

theorem part_rep {w : World} {ow : Bool} {ts : List Ty} {hdr v : Value} {d : List (List D)} {fp : List Nat} (hr : Rep w ow (.sl ts) hdr (.sl d) fp) {l h : Nat} (hp : partOf ts hdr l h v) :
    ∃ f, f.Sublist fp ∧ Rep w ow (.sl ts) v (.sl ((d.take h).drop l)) f := by
  cases hr with
  | nil =>
    obtain ⟨h1, h2, h3, rfl⟩ := hp
    have : h = 0 := by omega
    have : l = 0 := by omega
    subst_vars
    exact ⟨[], List.Sublist.refl _, by simpa using .nil⟩
  | emp hw hc =>
    obtain ⟨h1, h2, h3, rfl⟩ := hp
    have e1 : h = 0 := by omega
    have e2 : l = 0 := by omega
    subst e1; subst e2; subst hw
    refine ⟨[], List.Sublist.refl _, ?_⟩
    split
    · simpa using Rep.emp rfl hc
    · simpa using Rep.emp rfl hc
  | sl h1 h2 h3 h4 h5 h6 h7 =>
    rename_i b o len cap vs fp
    obtain ⟨g1, g2, g3, rfl⟩ := hp
    by_cases hcap : cap = l
    · have e1 : h = l := by omega
      have e2 : len = l := by omega
      subst e1
      refine ⟨[b], List.Sublist.cons_cons _ (List.nil_sublist _), ?_⟩
      have e3 : (List.drop h (List.take h d)) = [] := by simp
      rw [if_pos hcap, e3]
      exact .sl (vs := []) (fun k hk => by simp at hk) (by simp) (by omega) (by omega) (fun ho => by
        obtain ⟨cs, T, a1, a2⟩ := h5 ho
        exact ⟨cs, T, a1, by rw [show cap - h = 0 from by omega, Nat.zero_mul]; omega⟩) h6 .nil
    · rw [if_neg hcap]
      obtain ⟨f, f1, f2, f3⟩ := h7.take l h
      have hlen := h7.len
      have ho : Holds w b (o + l * ts.length) ((vs.take (h * ts.length)).drop (l * ts.length)) := by
        refine holds_drop (holds_take h1 _) _ ?_
        rw [List.length_take, hlen, h2]
        have : l * ts.length ≤ h * ts.length := Nat.mul_le_mul_right _ g1
        have : h * ts.length ≤ len * ts.length := Nat.mul_le_mul_right _ g2
        omega
      refine ⟨b :: f, List.Sublist.cons_cons _ f3, ?_⟩
      have e1 : Option.map (fun x => Addr.add x (l * ts.length)) (some ({ block := b, off := o } : Addr)) = some ⟨b, o + l * ts.length, none⟩ := by
        simp only [Option.map_some, Addr.add]
        split
        · rename_i e; simp [e]
        · rfl
      rw [e1]
      exact .sl ho (by simp; omega) (by omega) (by omega) (fun hh => by
        obtain ⟨cs, T, a1, a2⟩ := h5 hh
        refine ⟨cs, T, a1, ?_⟩
        have : l * ts.length ≤ cap * ts.length := Nat.mul_le_mul_right _ (by omega)
        rw [Nat.sub_mul]; omega) h6 f2

/-- The cell of an element of a row reads as the data's cell. -/
theorem cellAt_rep {g u : Nat} {ts : List Ty} {e : E} {own clean live : Bool} {b : Nat} (h : BlkOk c (.row g u ts e own clean live) (c.L b)) {n j : Nat} {v : Value} (hc : c.cellAt b ts n j v) {t : Ty} (ht : ts[j]? = some t) :
    ∃ f, Rep c.w own t v (((c.den e).l.getD n []).getD j default) f ∧ ∀ k ∈ f, k ∈ (c.L b).fp := by
  obtain ⟨⟨d, h0, h1⟩, _⟩ := h
  obtain ⟨o, len, cap, a1, a2, a3⟩ := hc
  rcases h1 with ⟨e1, _⟩ | ⟨o', len', cap', vs, e1, e2, e3, e4, e5, e6, e7, e8⟩
  · rw [e1] at a1; simp at a1
  · rw [e1] at a1
    simp only [Value.slice.injEq, Option.some.injEq, Addr.mk.injEq, true_and, and_true] at a1
    obtain ⟨rfl, rfl, rfl⟩ := a1
    have hn : n < d.length := by omega
    obtain ⟨vc, f, b1, b2, b3⟩ := e8.get (i := n) (c := d[n]) (by simp [hn])
    obtain ⟨v', dd, f', c1, c2, c3, c4⟩ := b2.get ht
    have hj : j < ts.length := by
      rcases Nat.lt_or_ge j ts.length with h | h
      · exact h
      · simp [List.getElem?_eq_none h] at ht
    have hv : vs[n * ts.length + j]? = some v' := by
      rw [← b1, List.getElem?_take_of_lt hj, List.getElem?_drop] at c1
      exact c1
    have hlt : n * ts.length + j < vs.length := by
      rcases Nat.lt_or_ge (n * ts.length + j) vs.length with h | h
      · exact h
      · simp [List.getElem?_eq_none h] at hv
    have := e2 _ hlt
    rw [show o' + (n * ts.length + j) = o' + n * ts.length + j from by omega, a3, hv] at this
    simp only [Option.some.injEq] at this
    subst this
    refine ⟨f', ?_, fun k hk => b3 k (c4 k hk)⟩
    rw [h0]
    simp only [D.l, List.getD_eq_getElem?_getD, List.getElem?_eq_getElem hn, Option.getD_some, c2]
    exact c3

theorem den_cell {e i : E} {j n : Nat} (hi : c.den i = .int n) : c.den (.cell e i j) = ((c.den e).l.getD n []).getD j default := by
  simp only [Ctx.den, E.cell, Sx.den, denL, evalF] at *
  rw [hi]
  simp [D.i]

theorem den_slice {e lo hi : E} {l h : Nat} (h1 : c.den lo = .int l) (h2 : c.den hi = .int h) : c.den (.app .slice [e, lo, hi]) = .sl (((c.den e).l.take h).drop l) := by
  simp only [Ctx.den, Sx.den, denL, evalF] at *
  rw [h1, h2]
  simp [D.i]

theorem RowOk.isSl {g u : Nat} {ts : List Ty} {e : E} {own clean live : Bool} {l : Loc} (h : BlkOk c (.row g u ts e own clean live) l) : ∃ d, c.den e = .sl d := by
  obtain ⟨⟨d, h0, _⟩, _⟩ := h
  exact ⟨d, h0⟩

theorem viewSl_ok (s : Sim B c sl a) {ts : List Ty} {x : AV} {e : E} {v : Value} {sl0 : Nat → AV} (h : (viewSl ts x).val sl0 c.hp = some e) (hv : AVOk c x v) :
    ∃ fp, Rep c.w false (.sl ts) v (c.den e) fp := by
  cases x <;> simp only [viewSl, Rd.val_fail] at h <;> try (simp at h; done)
  case nil => simp at h; subst h; rw [hv]; exact ⟨[], .nil⟩
  case ro ts' e' =>
    simp at h
    obtain ⟨h1, rfl⟩ := h
    rw [← Ty.eqL h1]
    exact ⟨_, hv.choose_spec.1⟩
  case orig ts' i =>
    simp at h
    obtain ⟨h1, rfl⟩ := h
    rw [← Ty.eqL h1]
    exact ⟨_, hv.2.choose_spec.1⟩
  case row b g =>
    simp only [Rd.val_bind, Rd.val_blk, Option.bind_some] at h
    split at h <;> simp at h
    rename_i g' u ts' e' own clean live hb
    obtain ⟨⟨rfl, h1⟩, rfl⟩ := h
    rw [← Ty.eqL h1, hv.2.2 _ _ _ _ _ _ hb]
    exact ⟨_, row_rep (s.blks _ _ hb)⟩
  case part b g lo hi =>
    simp only [Rd.val_bind, Rd.val_blk, Option.bind_some] at h
    split at h <;> simp at h
    rename_i g' u ts' e' own clean live hb
    obtain ⟨⟨rfl, h1⟩, rfl⟩ := h
    obtain ⟨l, hh, a1, a2, a3⟩ := hv.2.2 _ _ _ _ _ _ hb
    obtain ⟨d, hd⟩ := RowOk.isSl (s.blks _ _ hb)
    have hr := row_rep (s.blks _ _ hb)
    rw [hd] at hr
    obtain ⟨f, _, hf⟩ := part_rep hr a3
    rw [den_slice a1 a2, hd, ← Ty.eqL h1]
    exact ⟨f, hf⟩
  case under b g u i j ts0 =>
    simp only [Rd.val_bind, Rd.val_blk, Option.bind_some] at h
    split at h <;> simp at h
    rename_i g' u' tsr e' own clean hb
    obtain ⟨⟨⟨rfl, rfl⟩, h1⟩, rfl⟩ := h
    obtain ⟨a1, a2⟩ := hv.2.2 _ _ _ _ _ hb
    obtain ⟨b1, n, b2, b3⟩ := a2 rfl
    obtain ⟨f, hf, _⟩ := cellAt_rep (s.blks _ _ hb) b3 b1
    rw [den_cell b2, ← Ty.eqL h1]
    exact ⟨f, hf.ro⟩

end
end Go.Sx
