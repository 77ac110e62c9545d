/-
  The machine, part K: what is stored.
-/
import Derived.Test.YtnglgoloeabbeaaMJ
namespace Go.Sx
open Go Go.RowKit
set_option linter.unusedSimpArgs false
set_option linter.unusedVariables false

section
variable {P : Program} {c : Ctx} {sl : Nat → AV} {a : Act} {B : Base} {o : Oper} {sigs : Nat → Option Sig} {clean : List Nat} {g : E} {e : Eff} {pre : Nat → List D → Prop}

theorem store_run {t : TypeId} {ts : List Ty} (ht : tyOf P t = some ts) {x y : Operand} (ho : o.op = .store t x y) {b off : Nat} (hx : a.eval x = .pointer (some ⟨b, off, none⟩)) {cur : Array Value} {T : TypeId}
    (hb : c.w.heap[b]? = some (.cells cur T (0, 0))) (hl : (a.eval y).cells.size = ts.length) (hfit : off + ts.length ≤ cur.size) (h1 : ∀ v ∈ (a.eval y).cells.toList, v.oneCell' = true) :
    (execOp a.eval o).run P c.w = .ok .skip (c.w.setRow b (cur.toList.take off ++ (a.eval y).cells.toList ++ cur.toList.drop (off + ts.length)).toArray) := by
  have := run_storeCells_at P b off T (a.eval y).cells.toList 0 cur c.w hb (by simpa [hl] using hfit) h1
  simp only [Nat.add_zero, Array.length_toList, hl] at this
  simp [execOp, ho, hx, Instr.storeAt, Instr.sureAddr, storeVar, run_sizeOf ht, hl, this]

theorem one_ok {x : AV} {v : Value} (h : AVOk c x v) (h1 : x.one = true) : v.oneCell' = true := by
  cases x <;> simp only [AV.one] at h1 <;> try (simp at h1; done)
  case sc t ex =>
    have := h.2
    generalize c.den ex = dd at this
    cases this <;> rfl
  case nil => rw [h]; rfl
  case ro ts ex =>
    obtain ⟨fp, hr, _⟩ := h
    obtain ⟨p, k, e1, _⟩ := rep_slice hr
    rw [e1]; rfl
  case orig ts i =>
    obtain ⟨_, fp, hr, _⟩ := h
    obtain ⟨p, k, e1, _⟩ := rep_slice hr
    rw [e1]; rfl
  case row b g => obtain ⟨⟨_, _, _, e1⟩, _⟩ := h; rw [e1]; rfl
  case part b g lo hi => obtain ⟨⟨_, _, _, e1⟩, _⟩ := h; rw [e1]; rfl
  case under b g u i j ts => obtain ⟨⟨_, _, _, e1⟩, _⟩ := h; rw [e1]; rfl
  case ptr b g off => obtain ⟨⟨_, _, e1⟩, _⟩ := h; rw [e1]; rfl
  case eptr b g i j => obtain ⟨⟨_, _, e1⟩, _⟩ := h; rw [e1]; rfl
  case rptr ts e i j => obtain ⟨_, _, _, _, _, _, _, _, e1, _⟩ := h; rw [e1]; rfl
  case uptr b g u i j ts k m => obtain ⟨⟨_, _, e1⟩, _⟩ := h; rw [e1]; rfl

theorem ones_ok : ∀ {xs : List AV} {vs : List Value}, AVsOk c xs vs → xs.all AV.one = true → ∀ v ∈ vs, v.oneCell' = true
  | [], [], _, _ => fun _ h => nomatch h
  | x :: xs, v :: vs, h, h1 => by
    simp only [List.all_cons, Bool.and_eq_true] at h1
    intro u hu
    rcases List.mem_cons.1 hu with rfl | hu
    · exact one_ok h.1 h1.1
    · exact ones_ok h.2 h1.2 u hu
  | [], _ :: _, h, _ | _ :: _, [], h, _ => h.elim

/-- A variable is written. -/
theorem storeBox_ok (s : Sim B c sl a) {t : TypeId} {ts : List Ty} (ht : tyOf P t = some ts) {x y : Operand} (ho : o.op = .store t x y) {b g' off : Nat} {cells : List AV} (hb : c.hp b = some (.box g' cells))
    (hx : a.eval x = .pointer (some ⟨(c.L b).blk, off, none⟩)) {v : AV} (hv : AVOk c v (a.eval y)) (hp : v.plain = true) (hl : v.cells.length = ts.length) (hle : off + ts.length ≤ cells.length) (h1 : v.cells.all AV.one = true) :
    Does P o a c { val := .undef, upd := [(b, .box g' (cells.take off ++ v.cells ++ cells.drop (off + ts.length)))] } := by
  obtain ⟨vs, T, k1, k2⟩ := s.blks _ _ hb
  have hcs := cells_ok hv hp
  have hlen := avs_len k2
  have hcl := avs_len hcs
  have hrun := store_run (P := P) (c := c) ht ho hx k1 (by rw [← Array.length_toList, hcl, hl]) (by simp; omega) (ones_ok hcs h1)
  refine does_skip hrun (eff_put (b := b) (us := []) (l := c.L b) s (fun _ h => nomatch h) (fun _ h => nomatch h) (by simp) ⟨rfl, rfl, rfl⟩ (fun k hk h => ?_) (by rw [hb]; exact Nat.le_refl _) (fun _ _ _ _ _ _ _ _ h => by simp at h) (fun g2 cells' _ h => ?_) (fun k hk => ?_) (fun k hk _ => ?_) (fun st => ?_) (fun _ => trivial))
  · refine setRow_other _ _ _ _ fun e => h _ hb ?_
    rw [e]; exact List.mem_singleton.2 rfl
  · simp only [Blk.box.injEq] at h
    exact ⟨cells, by rw [hb, h.1], rfl⟩
  · exact .inr ⟨b, List.mem_cons_self .., _, hb, hk⟩
  · exact ⟨_, hb, hk⟩
  · refine ⟨_, T, setRow_heap _ _ _ _ _ _ k1, ?_⟩
    refine AVsOk.step st s.blks s.disj _ _ ?_
    simp only
    exact avs_append (avs_append (avs_take off k2) hcs) (avs_drop _ k2)

/-! ### One cell of an element -/

theorem RepC.set1 {w : World} {ow : Bool} : ∀ {ts : List Ty} {vs : List Value} {ds : List D} {f : List Nat}, RepC w ow ts vs ds f → ∀ {j : Nat} {t : Ty} {v : Value} {d : D} {f1 : List Nat}, ts[j]? = some t → Rep w ow t v d f1 →
    ∃ p old q, f = p ++ old ++ q ∧ RepC w ow ts (vs.set j v) (ds.set j d) (p ++ f1 ++ q) ∧ (isSl t = false → old = [])
  | _, _, _, _, .nil, j, t, v, d, f1, ht, h => by simp at ht
  | _, _, _, _, .cons (f := f0) (g := g0) h1 h2, 0, t, v, d, f1, ht, h => by
    simp at ht; subst ht
    exact ⟨[], f0, g0, rfl, .cons h h2, fun hs => (rep_own h1 hs).2⟩
  | _, _, _, _, .cons (f := f0) (g := g0) h1 h2, j + 1, t, v, d, f1, ht, h => by
    obtain ⟨p, old, q, rfl, h3, h4⟩ := RepC.set1 h2 (j := j) (by simpa using ht) h
    exact ⟨f0 ++ p, old, q, by simp, by simpa using RepC.cons h1 h3, h4⟩

theorem RepL.set1 {w : World} {ow : Bool} {ts : List Ty} : ∀ {vs : List Value} {l : List (List D)} {f : List Nat}, RepL w ow ts vs l f → ∀ {n j : Nat} {t : Ty} {v : Value} {d : D} {f1 : List Nat}, n < l.length → ts[j]? = some t → Rep w ow t v d f1 →
    ∃ p old q, f = p ++ old ++ q ∧ RepL w ow ts (vs.set (n * ts.length + j) v) (l.modify n fun x => x.set j d) (p ++ f1 ++ q) ∧ (isSl t = false → old = [])
  | _, _, _, .nil, n, _, _, _, _, _, hn, _, _ => by simp at hn
  | _, _, _, .cons (vc := vc) (vs := vs) (f := f0) (g := g0) h1 h2, 0, j, t, v, d, f1, hn, ht, h => by
    obtain ⟨p, old, q, rfl, h3, h4⟩ := h1.set1 ht h
    refine ⟨p, old, q ++ g0, by simp, ?_, h4⟩
    have hj : j < vc.length := by
      rw [h1.len.1]
      rcases Nat.lt_or_ge j ts.length with h | h
      · exact h
      · simp [List.getElem?_eq_none h] at ht
    have := RepL.cons h3 h2
    rw [Nat.zero_mul, Nat.zero_add, List.set_append_left _ _ hj]
    simpa using this
  | _, _, _, .cons (vc := vc) (vs := vs) (f := f0) (g := g0) h1 h2, n + 1, j, t, v, d, f1, hn, ht, h => by
    obtain ⟨p, old, q, rfl, h3, h4⟩ := RepL.set1 h2 (n := n) (by simpa using hn) ht h
    refine ⟨f0 ++ p, old, q, by simp, ?_, h4⟩
    have e1 : (n + 1) * ts.length + j = vc.length + (n * ts.length + j) := by rw [h1.len.1, Nat.add_mul]; omega
    rw [e1, List.set_append_right _ _ (by omega), Nat.add_sub_cancel_left]
    simpa using RepL.cons h1 h3

theorem set_self {l : List Value} {k : Nat} {v : Value} (h : l[k]? = some v) : l.set k v = l := by
  apply List.ext_getElem?
  intro i
  rw [List.getElem?_set]
  split
  · rename_i hi
    subst hi
    split
    · exact h.symm
    · rename_i hlt
      rw [List.getElem?_eq_none (by omega)]
  · rfl

theorem cell_is {b g u : Nat} {ts : List Ty} {ex : E} {own cl live : Bool} {n m : Nat} {v : Value} {d : List (List D)} {vs : List Value} {fp : List Nat} {o' len cap : Nat} (hh : (c.L b).hdr = .slice (some ⟨(c.L b).blk, o', none⟩) len cap)
    (hold : Holds c.w (c.L b).blk o' vs) (hlen : vs.length = len * ts.length) (hm : m < ts.length) (h : c.cellAt b ts n m v) : vs[n * ts.length + m]? = some v := by
  obtain ⟨o2, l2, c2, a1, a2, a3⟩ := h
  rw [hh] at a1
  simp only [Value.slice.injEq, Option.some.injEq, Addr.mk.injEq, true_and, and_true] at a1
  obtain ⟨rfl, rfl, rfl⟩ := a1
  have : (n + 1) * ts.length ≤ len * ts.length := Nat.mul_le_mul_right _ a2
  rw [Nat.add_mul, Nat.one_mul] at this
  have h2 := hold (n * ts.length + m) (by omega)
  rw [← Nat.add_assoc, a3] at h2
  exact h2.symm

theorem takeCell_own {sl0 : Nat → AV} {hp0 : Nat → Option Blk} {t : Ty} {x : AV} {q : E × Bool × List (Nat × Blk)} (ht : isSl t = false) (h : (takeCell t x).val sl0 hp0 = some q) : q.2.1 = true := by
  unfold takeCell at h
  split at h
  case h_6 =>
    simp only [Rd.val_bind, Rd.if_bind] at h
    obtain ⟨_, h⟩ := h
    simp at h; subst h; rfl
  case h_7 => simp at h
  all_goals simp [isSl] at ht

set_option maxHeartbeats 1000000 in
theorem putCells_ok (s : Sim B c sl a) {sl0 : Nat → AV} {b g' u n : Nat} {i : E} {tsb : List Ty} {e0 : E} {own0 cl : Bool} (hb : c.hp b = some (.row g' u tsb e0 own0 cl true)) (hi : c.den i = .int n) (S : Nat → Prop) :
    ∀ {ts : List Ty} {xs : List AV} {us : List Value} {q : E × Bool × Bool × List (Nat × Blk)} {ex : E} {j : Nat} {own : Bool} {d : List (List D)} {vs : List Value} {fp : List Nat} {N : List Nat}, AVsOk c xs us →
      (putCells b g' u i ex j ts xs).val sl0 c.hp = some q → ((tsb.drop j).take ts.length) = ts → c.den ex = .sl d → n < d.length → RepL c.w own tsb vs d fp →
      (∀ m v ts', j ≤ m → tsb[m]? = some (.sl ts') → c.cellAt b tsb n m v → vs[n * tsb.length + m]? = some v) →
      (∀ k ∈ fp, S k ∨ Perm c.hp c.L k ∨ Src c N k) → (own = true → fp.Nodup ∧ ∀ k ∈ fp, S k ∨ Src c N k) → (∀ y ∈ q.2.2.2, ∀ m ∈ N, y.1 ≠ m) → (∀ y ∈ q.2.2.2, y.1 ≠ b) → (own = true → ∀ k, S k → Src c [b] k) → b ∉ N →
      ∃ d' fp', c.den q.1 = .sl d' ∧ d'.length = d.length ∧ us.length = ts.length ∧ RepL c.w (own && q.2.1) tsb (vs.take (n * tsb.length + j) ++ us ++ vs.drop (n * tsb.length + j + us.length)) d' fp' ∧ Used c q.2.2.2 ∧
        (∀ k ∈ fp', S k ∨ Perm c.hp c.L k ∨ Src c (N ++ q.2.2.2.map (·.1)) k) ∧ (own = true → q.2.1 = true → fp'.Nodup ∧ ∀ k ∈ fp', S k ∨ Src c (N ++ q.2.2.2.map (·.1)) k) ∧
        (q.2.2.1 = true → fp' = fp ∧ q.2.1 = true ∧ ∀ n' m ts', tsb[m]? = some (.sl ts') → (vs.take (n * tsb.length + j) ++ us ++ vs.drop (n * tsb.length + j + us.length))[n' * tsb.length + m]? = vs[n' * tsb.length + m]?) ∧ ∀ v ∈ us, v.oneCell' = true
  | [], [], us, q, ex, j, own, d, vs, fp, N, hv, h, ht, hd, hn, hr, hc, hf, ho, hN, hbu, hS, hbN => by
    simp [putCells] at h; subst h
    cases us with
    | cons v us => exact hv.elim
    | nil =>
      refine ⟨d, fp, hd, rfl, rfl, by simpa using hr, (fun _ h => nomatch h), by simpa using hf, fun h1 h2 => by simpa using ho h1, fun _ => ⟨rfl, rfl, fun n' m ts' _ => by simp⟩, fun _ h => nomatch h⟩
  | t :: ts, x :: xs, us, q, ex, j, own, d, vs, fp, N, hv, h, ht, hd, hn, hr, hc, hf, ho, hN, hbu, hS, hbN => by
    cases us with
    | nil => exact hv.elim
    | cons v us =>
      have hj : tsb[j]? = some t := by
        have := congrArg (fun l => l[0]?) ht
        simpa using this
      have hjlt : j < tsb.length := by
        rcases Nat.lt_or_ge j tsb.length with h | h
        · exact h
        · simp [List.getElem?_eq_none h] at hj
      have ht' : (tsb.drop (j + 1)).take ts.length = ts := by
        have := congrArg (fun l => l.drop 1) ht
        simpa [List.drop_take, List.drop_drop, Nat.add_comm] using this
      have hvl : vs.length = d.length * tsb.length := hr.len
      have hk : n * tsb.length + j < vs.length := by
        have : (n + 1) * tsb.length ≤ d.length * tsb.length := Nat.mul_le_mul_right _ hn
        rw [Nat.add_mul, Nat.one_mul] at this
        omega
      have inj : ∀ n' m, m < tsb.length → n' * tsb.length + m = n * tsb.length + j → m = j := by
        intro n' m hm e
        have := congrArg (· % tsb.length) e
        simp only [Nat.add_comm (_ * tsb.length), Nat.add_mul_mod_self_right, Nat.mod_eq_of_lt hm, Nat.mod_eq_of_lt hjlt] at this
        exact this
      have seg : ∀ (r : List Value), (n * tsb.length + j) + (r.length + 1) ≤ vs.length → (vs.set (n * tsb.length + j) v).take (n * tsb.length + (j + 1)) ++ r ++ (vs.set (n * tsb.length + j) v).drop (n * tsb.length + (j + 1) + r.length) =
          vs.take (n * tsb.length + j) ++ (v :: r) ++ vs.drop (n * tsb.length + j + (v :: r).length) := by
        intro r hr
        have := list_seg_step vs (n * tsb.length + j) v r hr
        simpa [Nat.add_assoc] using this
      unfold putCells at h
      have fits : ∀ (ul : Nat), ul = ts.length → (n * tsb.length + j) + (ul + 1) ≤ vs.length := by
        intro ul hul
        have h1 := congrArg List.length ht'
        simp only [List.length_take, List.length_drop] at h1
        have : (n + 1) * tsb.length ≤ d.length * tsb.length := Nat.mul_le_mul_right _ hn
        rw [Nat.add_mul, Nat.one_mul] at this
        omega
      split at h
      · rename_i hsame
        -- the very cell that stands there
        unfold AV.sameAt at hsame
        split at hsame
        case h_2 => simp at hsame
        rename_i b' g2 u2 i' j' ts'
        simp only [Bool.and_eq_true, beq_iff_eq] at hsame
        obtain ⟨⟨⟨⟨rfl, rfl⟩, rfl⟩, hie⟩, rfl⟩ := hsame
        have hie' := E.eq_of_beq hie
        subst hie'
        obtain ⟨a1, a2⟩ := hv.1.2.2 _ _ _ _ _ hb
        obtain ⟨c1, n2, c2, c3⟩ := a2 rfl
        rw [hi] at c2
        simp only [D.int.injEq, Int.natCast_inj] at c2
        subst c2
        have hcell := hc _ _ _ (Nat.le_refl _) c1 c3
        obtain ⟨d', fp', p1, p2, p3, p4, p5, p6, p7, p8, p9⟩ := putCells_ok s hb hi S hv.2 h ht' hd hn hr (fun m v ts' hm => hc m v ts' (by omega)) hf ho hN hbu hS hbN
        have hself := set_self hcell
        have e1 := seg us (fits _ p3)
        rw [hself] at e1
        rw [e1] at p4 p8
        refine ⟨d', fp', p1, p2, by simp [p3], p4, p5, p6, p7, p8, fun x hx => ?_⟩
        rcases List.mem_cons.1 hx with rfl | hx
        · obtain ⟨_, _, _, e⟩ := hv.1.1; rw [e]; rfl
        · exact p9 x hx
      · simp only [Rd.val_bind] at h
        replace h := bind_some h; obtain ⟨⟨e1, o1, u1⟩, h1, h⟩ := h
        replace h := bind_some h; obtain ⟨⟨e2, o2, s2, u2⟩, h2, h⟩ := h
        simp only [Rd.val_bind, Rd.if_bind] at h
        obtain ⟨hfr, h⟩ := h
        simp at h; subst h
        obtain ⟨f1, r1, k1, p1⟩ := takeCell_ok s hv.1 h1
        simp only at r1 k1
        obtain ⟨p, old, q, rfl, hr', hold⟩ := (hr.weak (own := own && o1) (fun h => by simp only [Bool.and_eq_true] at h; exact h.1)).set1 hn hj (r1.weak (own := own && o1) (fun h => by simp only [Bool.and_eq_true] at h; exact h.2))
        have hne1 : ∀ y ∈ u1, ∀ m ∈ N, y.1 ≠ m := fun y hy m hm => hN y (List.mem_append_left _ hy) m hm
        have hden : c.den (.app (.set j) [ex, i, e1]) = .sl (d.modify n fun x => x.set j (c.den e1)) := by
          rw [den3, hd, hi]; simp [evalF]
        obtain ⟨d', fp', p1', p2, p3, p4, p5, p6, p7, p8, p9⟩ := putCells_ok s hb hi S (N := N ++ u1.map (·.1)) hv.2 h2 ht' hden (by simpa using hn) hr' (fun m v' ts' hm hsl hcc => by
            have := hc m v' ts' (by omega) hsl hcc
            rw [List.getElem?_set_ne (by omega)]
            exact this)
          (fun k hk => by
            rcases List.mem_append.1 hk with hk | hk
            · rcases List.mem_append.1 hk with hk | hk
              · rcases hf k (by simp [hk]) with h | h | h
                · exact .inl h
                · exact .inr (.inl h)
                · exact .inr (.inr (h.mono fun x hx => List.mem_append_left _ hx))
              · rcases k1.from_ k hk with h | h
                · exact .inr (.inl h)
                · exact .inr (.inr (h.mono fun x hx => List.mem_append_right _ hx))
            · rcases hf k (by simp [hk]) with h | h | h
              · exact .inl h
              · exact .inr (.inl h)
              · exact .inr (.inr (h.mono fun x hx => List.mem_append_left _ hx)))
          (fun hoo => by
            simp only [Bool.and_eq_true] at hoo
            obtain ⟨n1, q1⟩ := ho hoo.1
            obtain ⟨n2, q2⟩ := k1.own_ hoo.2
            have hsub : (p ++ q).Sublist (p ++ old ++ q) := (List.append_sublist_append_right q).2 (List.sublist_append_left p old)
            have npq := hsub.nodup n1
            have apart : ∀ k, (k ∈ p ∨ k ∈ q) → k ∈ f1 → False := by
              intro k hk hkf
              have hk' : k ∈ p ++ old ++ q := by rcases hk with hk | hk <;> simp [hk]
              rcases q1 k hk' with h | h
              · refine src_apart s (N := [b]) (M := u1.map (·.1)) (fun x hx y hy => ?_) (hS hoo.1 k h) (q2 k hkf)
                obtain ⟨z, hz, rfl⟩ := List.mem_map.1 hy
                rw [List.mem_singleton.1 hx]
                exact (hbu z (List.mem_append_left _ hz)).symm
              · refine src_apart s (N := N) (M := u1.map (·.1)) (fun x hx y hy => ?_) h (q2 k hkf)
                obtain ⟨z, hz, rfl⟩ := List.mem_map.1 hy
                exact (hne1 z hz x hx).symm
            obtain ⟨np, nq, hpq⟩ := List.nodup_append.1 npq
            refine ⟨List.nodup_append.2 ⟨List.nodup_append.2 ⟨np, n2, fun x hx y hy e => apart x (.inl hx) (e ▸ hy)⟩, nq, fun x hx y hy e => ?_⟩, fun k hk => ?_⟩
            · rcases List.mem_append.1 hx with hx | hx
              · exact hpq x hx y hy e
              · exact apart y (.inr hy) (e ▸ hx)
            · rcases List.mem_append.1 hk with hk | hk
              · rcases List.mem_append.1 hk with hk | hk
                · rcases q1 k (by simp [hk]) with h | h
                  · exact .inl h
                  · exact .inr (h.mono fun x hx => List.mem_append_left _ hx)
                · exact .inr ((q2 k hk).mono fun x hx => List.mem_append_right _ hx)
              · rcases q1 k (by simp [hk]) with h | h
                · exact .inl h
                · exact .inr (h.mono fun x hx => List.mem_append_left _ hx))
          (fun y hy m hm => by
            rcases List.mem_append.1 hm with hm | hm
            · exact hN y (List.mem_append_right _ hy) m hm
            · obtain ⟨z, hz, rfl⟩ := List.mem_map.1 hm
              exact (fresh_ne hfr z hz y hy).symm)
          (fun y hy => hbu y (List.mem_append_right _ hy)) (fun hoo => hS (by simp only [Bool.and_eq_true] at hoo; exact hoo.1))
          (fun hm => by
            rcases List.mem_append.1 hm with hm | hm
            · exact hbN hm
            · obtain ⟨z, hz, e⟩ := List.mem_map.1 hm
              exact hbu z (List.mem_append_left _ hz) e)
        rw [seg us (fits _ p3)] at p4 p8
        refine ⟨d', fp', p1', by simpa using p2, by simp [p3], by simpa [Bool.and_assoc] using p4, fun y hy => ?_, by simpa [List.append_assoc] using p6, fun h1 h2 => ?_, fun hs => ?_, fun x hx => ?_⟩
        · rcases List.mem_append.1 hy with hy | hy
          · exact k1.used y hy
          · exact p5 y hy
        · simp only [Bool.and_eq_true] at h2
          simpa [List.append_assoc] using p7 (by simp [h1, h2.1]) h2.2
        · -- no slice is stored here
          simp only [Bool.and_eq_true, Bool.not_eq_true'] at hs
          obtain ⟨hns, hs2⟩ := hs
          obtain ⟨g1, g2, g3⟩ := p8 hs2
          have hf1 : f1 = [] := (rep_own r1 hns).2
          have ho1 : o1 = true := by
            exact takeCell_own hns h1
          refine ⟨by rw [g1, hold hns, hf1], by simp only [ho1, Bool.true_and]; exact g2, fun n' m ts' hm => ?_⟩
          rw [g3 n' m ts' hm, List.getElem?_set]
          split
          · rename_i hkk
            exfalso
            have hmlt : m < tsb.length := by
              rcases Nat.lt_or_ge m tsb.length with h | h
              · exact h
              · simp [List.getElem?_eq_none h] at hm
            have := inj n' m hmlt hkk.symm
            subst this
            rw [hj] at hm
            simp only [Option.some.injEq] at hm
            subst hm
            simp [isSl] at hns
          · rfl
        · rcases List.mem_cons.1 hx with rfl | hx
          · exact p1
          · exact p9 x hx
  | [], _ :: _, _, _, _, _, _, _, _, _, _, _, h, _, _, _, _, _, _, _, _, _, _, _ => by simp [putCells] at h
  | _ :: _, [], _, _, _, _, _, _, _, _, _, _, h, _, _, _, _, _, _, _, _, _, _, _ => by simp [putCells] at h

theorem seg_get {α : Type} {l v vs : List α} {o p : Nat} (hfit : p + v.length ≤ vs.length) (hl : o + vs.length ≤ l.length) (hold : ∀ k, k < vs.length → l[o + k]? = vs[k]?) (k : Nat) (hk : k < vs.length) :
    (l.take (o + p) ++ v ++ l.drop (o + p + v.length))[o + k]? = (vs.take p ++ v ++ vs.drop (p + v.length))[k]? := by
  have l1 : (l.take (o + p)).length = o + p := by rw [List.length_take]; omega
  have l2 : (vs.take p).length = p := by rw [List.length_take]; omega
  rw [List.append_assoc, List.append_assoc]
  by_cases h1 : k < p
  · rw [List.getElem?_append_left (by omega : o + k < (l.take (o + p)).length), List.getElem?_append_left (by omega : k < (vs.take p).length), List.getElem?_take_of_lt (by omega), List.getElem?_take_of_lt (by omega), hold k hk]
  · rw [List.getElem?_append_right (by omega : (l.take (o + p)).length ≤ o + k), List.getElem?_append_right (by omega : (vs.take p).length ≤ k), l1, l2, show o + k - (o + p) = k - p from by omega]
    by_cases h2 : k - p < v.length
    · rw [List.getElem?_append_left h2, List.getElem?_append_left h2]
    · rw [List.getElem?_append_right (by omega), List.getElem?_append_right (by omega), List.getElem?_drop, List.getElem?_drop, show p + v.length + (k - p - v.length) = k from by omega, ← hold k hk]
      congr 1
      omega

/-- An element of a row is written. -/
theorem storeElem_ok (s : Sim B c sl a) {sl0 : Nat → AV} {t : TypeId} {ts : List Ty} (ht : tyOf P t = some ts) {x y : Operand} (ho : o.op = .store t x y) {b g' u j : Nat} {i : E} {tsb : List Ty} {ex : E} {own cl : Bool}
    (hb : c.hp b = some (.row g' u tsb ex own cl true)) (hx : AVOk c (.eptr b g' i j) (a.eval x)) {v : AV} (hv : AVOk c v (a.eval y)) (htb : ((tsb.drop j).take ts.length) = ts) (h0 : ts ≠ []) (hvp : v.plain = true)
    {q : E × Bool × Bool × List (Nat × Blk)} (hq : (putCells b g' u i ex j ts v.cells).val sl0 c.hp = some q) (hne : ∀ y ∈ q.2.2.2, y.1 ≠ b) :
    Does P o a c { val := .undef, upd := (b, .row g' (if q.2.2.1 then u else u + 1) tsb q.1 (own && q.2.1) (cl && q.2.2.1) true) :: q.2.2.2 } := by
  obtain ⟨n, d1, o0, len0, cap0, z1, z2, z3⟩ := hx.2.2 _ _ _ _ _ _ hb
  have hbk := s.blks _ _ hb
  obtain ⟨⟨d, hd, hro⟩, hb2, hb3, hb4, hb5⟩ := hbk
  rcases hro with ⟨q1, _⟩ | ⟨o', len, cap, vs, e1, e2, e3, e4, e5, e6, e7, e8⟩
  · rw [q1] at z1; simp at z1
  rw [e1] at z1
  simp only [Value.slice.injEq, Option.some.injEq, Addr.mk.injEq, true_and, and_true] at z1
  obtain ⟨rfl, rfl, rfl⟩ := z1
  have htop : (c.L b).top = [(c.L b).blk] := Loc.top_some e1
  have hcs := cells_ok hv hvp
  have hn : n < d.length := by omega
  have blkHard : (c.L b).blk ∈ hard (.row g' u tsb ex own cl true) (c.L b) := by simp [hard, htop]
  have blkAcc : (c.L b).blk ∈ acc (.row g' u tsb ex own cl true) (c.L b) := by simp [acc, htop]
  obtain ⟨d', fp', p1, p2, p3, p4, p5, p6, p7, p8, p9⟩ := putCells_ok s hb d1 (fun k => k ∈ (c.L b).fp) (N := []) hcs hq htb hd hn e8
    (fun m v' ts' hm hsl hcc => cell_is (own := own) (cl := cl) (live := true) (g := g') (u := u) (ex := ex) (d := d) (fp := (c.L b).fp) e1 e2 (by rw [e8.len, e3]) (by
      rcases Nat.lt_or_ge m tsb.length with h | h
      · exact h
      · simp [List.getElem?_eq_none h] at hsl) hcc)
    (fun k hk => .inl hk) (fun hoo => ⟨(List.nodup_append.1 (hb4 rfl hoo)).2.1, fun k hk => .inl hk⟩) (fun _ _ _ h => nomatch h) hne
    (fun hoo k hk => ⟨b, List.mem_singleton.2 rfl, _, hb, by subst hoo; simp [acc]; exact .inr hk⟩) (fun h => nomatch h)
  simp only [List.nil_append] at p6 p7
  obtain ⟨cs, T, r1, r2⟩ := e6 rfl
  have hfpne : ∀ k ∈ (c.L b).fp, k ≠ (c.L b).blk := by
    intro k hk e
    subst e
    cases own with
    | true =>
      have := hb4 rfl rfl
      rw [htop] at this
      exact (List.nodup_cons.1 this).1 hk
    | false => exact (hb3 rfl rfl _ hk).1 b _ hb blkHard
  have hne' : ∀ k ∈ fp', k ≠ (c.L b).blk := by
    intro k hk e
    rcases p6 k hk with h | h | ⟨b0, hb0, x0, h1, h2⟩
    · exact hfpne k h e
    · subst e; exact h.1 b _ hb blkHard
    · subst e
      obtain ⟨y0, hy0, rfl⟩ := List.mem_map.1 hb0
      exact s.disj y0.1 b _ _ (hne y0 hy0) h1 hb _ h2 blkAcc
  have hvl : (a.eval y).cells.toList.length = ts.length := p3
  have htl : j + ts.length ≤ tsb.length ∨ ts.length = 0 := by
    have := congrArg List.length htb
    simp only [List.length_take, List.length_drop] at this
    omega
  have hfit : n * tsb.length + (j + ts.length) ≤ d.length * tsb.length ∨ ts.length = 0 := by
    rcases htl with h | h
    · left
      have : (n + 1) * tsb.length ≤ d.length * tsb.length := Nat.mul_le_mul_right _ hn
      rw [Nat.add_mul, Nat.one_mul] at this
      omega
    · exact .inr h
  have hlc : d.length * tsb.length ≤ cap * tsb.length := Nat.mul_le_mul_right _ (by omega)
  have h0 : ts.length ≠ 0 := fun h => h0 (List.eq_nil_of_length_eq_zero h)
  have hfit' : o' + n * tsb.length + j + ts.length ≤ cs.size := by
    rcases hfit with h | h
    · omega
    · exact absurd h h0
  have hrun := store_run (P := P) (c := c) ht ho z3 r1 (by rw [← Array.length_toList]; exact hvl) hfit' p9
  obtain ⟨w', hw'⟩ : ∃ w', w' = c.w.setRow (c.L b).blk (cs.toList.take (o' + n * tsb.length + j) ++ (a.eval y).cells.toList ++ cs.toList.drop (o' + n * tsb.length + j + ts.length)).toArray := ⟨_, rfl⟩
  rw [← hw'] at hrun
  have hhard : ∀ k ∈ hard (.row g' (if q.2.2.1 then u else u + 1) tsb q.1 (own && q.2.1) (cl && q.2.2.1) true) ({ c.L b with fp := fp' } : Loc), k < c.w.heap.size → ∃ x0, c.hp b = some x0 ∧ k ∈ hard x0 (c.L b) := by
    intro k hk _
    refine ⟨_, hb, ?_⟩
    have ht2 : ({ c.L b with fp := fp' } : Loc).top = [(c.L b).blk] := Loc.top_some e1
    simp only [hard, ht2, htop] at hk ⊢
    rcases List.mem_append.1 hk with hk | hk
    · exact List.mem_append_left _ hk
    · split at hk
      · rename_i hc
        simp only [Bool.and_eq_true] at hc
        rw [(p8 hc.2).1] at hk
        rw [if_pos hc.1]
        exact List.mem_append_right _ hk
      · exact nomatch hk
  have hcell : ∀ k, w'.cell? ⟨(c.L b).blk, k, none⟩ =
      (cs.toList.take (o' + n * tsb.length + j) ++ (a.eval y).cells.toList ++ cs.toList.drop (o' + n * tsb.length + j + ts.length))[k]? := by
    intro k
    rw [hw', cell_setRow_same _ _ _ _ _ _ _ r1]
    simp
  have hold : ∀ k, k < vs.length → cs.toList[o' + k]? = vs[k]? := by
    intro k hk
    have := e2 k hk
    rw [cell_of_row _ _ _ _ _ _ r1] at this
    simpa using this
  have hnew : ∀ k, k < vs.length → (cs.toList.take (o' + n * tsb.length + j) ++ (a.eval y).cells.toList ++ cs.toList.drop (o' + n * tsb.length + j + ts.length))[o' + k]? =
      (vs.take (n * tsb.length + j) ++ (a.eval y).cells.toList ++ vs.drop (n * tsb.length + j + (a.eval y).cells.toList.length))[k]? := by
    intro k hk
    have hvlen : vs.length = d.length * tsb.length := e8.len
    have hf : n * tsb.length + (j + ts.length) ≤ vs.length := by
      rcases hfit with h | h
      · omega
      · exact absurd h h0
    have := seg_get (l := cs.toList) (v := (a.eval y).cells.toList) (o := o') (vs := vs) (p := n * tsb.length + j) (by rw [hvl]; omega) (by have : cs.toList.length = cs.size := Array.length_toList; omega) hold k hk
    rw [hvl] at this
    rw [hvl, ← this]
    simp only [Nat.add_assoc]
  refine does_skip hrun (eff_put (b := b) (us := q.2.2.2) (l := { c.L b with fp := fp' }) (w' := w') s p5 hne (by rw [hw']; simp) (by rw [hw']; exact ⟨rfl, rfl, rfl⟩) (fun k hk h => ?_) (by rw [hb]; exact Nat.le_refl _) (fun g2 u2 ts2 e2' own2 cl2 live2 hg2 h => ?_) (fun _ _ _ h => by simp at h) (fun k hk => ?_) hhard (fun st => ?_) (fun _ => trivial))
  · rw [hw']
    refine setRow_other _ _ _ _ fun e => h _ hb ?_
    rw [e]; exact blkHard
  · simp only [Blk.row.injEq] at h
    obtain ⟨rfl, rfl, rfl, rfl, rfl, rfl, rfl⟩ := h
    refine ⟨u, ex, own, cl, true, hb, rfl, rfl, fun _ => rfl, fun _ => ⟨by split <;> omega, fun hu n' m ts' v' hm hcc => ?_⟩⟩
    have hs : q.2.2.1 = true := by
      by_cases hs : q.2.2.1 = true
      · exact hs
      · rw [if_neg hs] at hu; omega
    have hmlt : m < tsb.length := by
      rcases Nat.lt_or_ge m tsb.length with h | h
      · exact h
      · simp [List.getElem?_eq_none h] at hm
    have hcc' := hcc
    obtain ⟨o3, l3, c3, y1, y2, y3⟩ := hcc
    have hvi := cell_is (own := own) (cl := cl) (live := true) (g := g') (u := u) (ex := ex) (d := d) (fp := (c.L b).fp) e1 e2 (by rw [e8.len, e3]) hmlt hcc'
    rw [e1] at y1
    simp only [Value.slice.injEq, Option.some.injEq, Addr.mk.injEq, true_and, and_true] at y1
    obtain ⟨rfl, rfl, rfl⟩ := y1
    refine ⟨o', d.length, cap, ?_, by omega, ?_⟩
    · simp [Ctx.put, e1, e3]
    · have hkl : n' * tsb.length + m < vs.length := by
        rcases Nat.lt_or_ge (n' * tsb.length + m) vs.length with h | h
        · exact h
        · simp [List.getElem?_eq_none h] at hvi
      simp only [Ctx.put, if_true]
      rw [Nat.add_assoc, hcell, hnew _ hkl, (p8 hs).2.2 n' m ts' hm, hvi]
  · have ht2 : ({ c.L b with fp := fp' } : Loc).top = [(c.L b).blk] := Loc.top_some e1
    simp only [acc, ht2] at hk
    rcases List.mem_append.1 hk with hk | hk
    · exact .inr ⟨b, List.mem_cons_self .., _, hb, by rw [List.mem_singleton.1 hk]; exact blkAcc⟩
    · split at hk
      · rename_i hc
        simp only [Bool.and_eq_true] at hc
        rcases (p7 hc.1 hc.2).2 k hk with h | h
        · exact .inr ⟨b, List.mem_cons_self .., _, hb, by simp [acc, hc.1, h]⟩
        · exact .inr (h.mono fun x hx => List.mem_cons_of_mem _ hx)
      · exact nomatch hk
  · have ht2 : ({ c.L b with fp := fp' } : Loc).top = [(c.L b).blk] := Loc.top_some e1
    have hstill : ∀ k ∈ fp', w'.heap[k]? = c.w.heap[k]? :=
      fun k hk => by rw [hw']; exact setRow_other _ _ _ _ (hne' k hk)
    refine ⟨⟨d', by rw [st.den]; exact p1, .inr ⟨o', len, cap, _, e1, fun k hk => ?_, by omega, e4, e5, fun _ => ?_, by show _ < w'.heap.size; rw [hw']; simp; exact e7, p4.alike fun k hk => hstill k hk⟩⟩,
      (fun h => nomatch h), fun _ hoo k hk => ?_, fun _ hoo => ?_, fun hcl => ?_⟩
    · show w'.cell? _ = _
      have hlen2 : (vs.take (n * tsb.length + j) ++ (a.eval y).cells.toList ++ vs.drop (n * tsb.length + j + (a.eval y).cells.toList.length)).length = vs.length := by
        have h1 := p4.len
        have h2 := e8.len
        rw [h1, h2, p2]
      rw [hcell, hnew k (by omega)]
    · refine ⟨_, T, (by show w'.heap[_]? = _; rw [hw']; exact setRow_heap _ _ _ _ _ _ r1), ?_⟩
      simp only [List.size_toArray, List.length_append, List.length_take, List.length_drop, Array.length_toList, hvl]
      omega
    · have hlt : k < c.w.heap.size := p4.lt k hk
      rcases p6 k hk with h | h
      · by_cases hown : own = true
        · -- what was the row's own is read only, now
          subst hown
          have ho2 : q.2.1 = false := by simpa using hoo
          have hs2 : q.2.2.1 = false := by
            cases hs : q.2.2.1 with
            | false => rfl
            | true => have := (p8 hs).2.1; rw [ho2] at this; exact nomatch this
          refine ⟨?_, s.apart b _ hb k (by simp [acc]; exact .inr h)⟩
          intro b' x' hx' hm
          by_cases hbb : b' = b
          · subst hbb
            rw [put_self hne] at hx'
            simp only [Option.some.injEq] at hx'
            subst hx'
            have hL : (c.put b' (.row g' (if q.2.2.1 then u else u + 1) tsb q.1 (true && q.2.1) (cl && q.2.2.1) true) q.2.2.2 { c.L b' with fp := fp' } w').L b' = { c.L b' with fp := fp' } := by simp [Ctx.put]
            rw [hL] at hm
            simp only [hard, ht2, hs2, Bool.and_false, Bool.false_eq_true, if_false, List.append_nil, List.mem_singleton] at hm
            exact hfpne k h hm
          · by_cases hbu : ∃ z ∈ q.2.2.2, z.1 = b'
            · obtain ⟨z, hz, rfl⟩ := hbu
              rw [put_used p5 hne hz] at hx'
              obtain ⟨_, _, _, _, _, _, _, w1, w2⟩ := p5 z hz
              simp only [Option.some.injEq] at hx'
              subst hx'
              rw [w1] at hm
              exact nomatch hm
            · rw [put_other hbb fun z hz e => hbu ⟨z, hz, e⟩] at hx'
              simp only [Ctx.put, if_neg hbb] at hm
              exact s.disj b b' _ _ (Ne.symm hbb) hb hx' k (by simp [acc]; exact .inr h) (hard_acc (s.blks _ _ hx') k hm)
        · have hown' : own = false := by simpa using hown
          exact perm_put s p5 hne st hhard hlt (.inl (hb3 rfl hown' k h))
      · exact perm_put s p5 hne st hhard hlt h
    · simp only [Bool.and_eq_true] at hoo
      rw [ht2]
      exact List.nodup_cons.2 ⟨fun hm => hne' _ hm rfl, (p7 hoo.1 hoo.2).1⟩
    · simp only [Bool.and_eq_true] at hcl ⊢
      exact ⟨hb5 hcl.1, (p8 hcl.2).2.1⟩

/-! ### A cell of a slice within a row -/

theorem RepC.focus {w : World} {ow : Bool} : ∀ {ts : List Ty} {vs : List Value} {ds : List D} {f : List Nat}, RepC w ow ts vs ds f → ∀ {j : Nat} {t : Ty}, ts[j]? = some t →
    ∃ p f0 q v0 d0, f = p ++ f0 ++ q ∧ vs[j]? = some v0 ∧ ds[j]? = some d0 ∧ Rep w ow t v0 d0 f0 ∧
      ∀ w' d1, Alike w w' p → Alike w w' q → Rep w' ow t v0 d1 f0 → RepC w' ow ts vs (ds.set j d1) f
  | _, _, _, _, .nil, j, t, h => by simp at h
  | _, _, _, _, .cons (f := f0) (g := g0) h1 h2, 0, t, h => by
    simp at h; subst h
    exact ⟨[], f0, g0, _, _, rfl, rfl, rfl, h1, fun w' d1 _ hq hr => .cons hr (h2.alike hq)⟩
  | _, _, _, _, .cons (f := f0) (g := g0) h1 h2, j + 1, t, h => by
    obtain ⟨p, f1, q, v0, d0, rfl, a1, a2, a3, a4⟩ := RepC.focus h2 (j := j) (by simpa using h)
    exact ⟨f0 ++ p, f1, q, v0, d0, by simp, by simpa using a1, by simpa using a2, a3, fun w' d1 hp hq hr => by simpa using RepC.cons (h1.alike hp.left) (a4 w' d1 hp.right hq hr)⟩

theorem RepL.focus {w : World} {ow : Bool} {ts : List Ty} : ∀ {vs : List Value} {l : List (List D)} {f : List Nat}, RepL w ow ts vs l f → ∀ {n j : Nat} {t : Ty}, n < l.length → ts[j]? = some t →
    ∃ p f0 q v0 d0 dn, f = p ++ f0 ++ q ∧ vs[n * ts.length + j]? = some v0 ∧ l[n]? = some dn ∧ dn[j]? = some d0 ∧ Rep w ow t v0 d0 f0 ∧
      ∀ w' d1, Alike w w' p → Alike w w' q → Rep w' ow t v0 d1 f0 → RepL w' ow ts vs (l.modify n fun x => x.set j d1) f
  | _, _, _, .nil, n, _, _, hn, _ => by simp at hn
  | _, _, _, .cons (vc := vc) (f := f0) (g := g0) h1 h2, 0, j, t, hn, h => by
    obtain ⟨p, f1, q, v0, d0, rfl, a1, a2, a3, a4⟩ := h1.focus h
    have hj : j < vc.length := by
      rcases Nat.lt_or_ge j vc.length with h | h
      · exact h
      · simp [List.getElem?_eq_none h] at a1
    refine ⟨p, f1, q ++ g0, v0, d0, _, by simp, ?_, rfl, a2, a3, fun w' d1 hp hq hr => by simpa using RepL.cons (a4 w' d1 hp hq.left hr) (h2.alike hq.right)⟩
    rw [Nat.zero_mul, Nat.zero_add, List.getElem?_append_left hj, a1]
  | _, _, _, .cons (vc := vc) (f := f0) (g := g0) h1 h2, n + 1, j, t, hn, h => by
    obtain ⟨p, f1, q, v0, d0, dn, rfl, a1, a2, a2', a3, a4⟩ := RepL.focus h2 (n := n) (by simpa using hn) h
    refine ⟨f0 ++ p, f1, q, v0, d0, dn, by simp, ?_, by simpa using a2, a2', a3, fun w' d1 hp hq hr => by simpa using RepL.cons (h1.alike hp.left) (a4 w' d1 hp.right hq hr)⟩
    have e1 : (n + 1) * ts.length + j = vc.length + (n * ts.length + j) := by rw [h1.len.1, Nat.add_mul]; omega
    rw [e1, List.getElem?_append_right (by omega), Nat.add_sub_cancel_left, a1]

theorem modify_set {l : List D} {j : Nat} {d : D} (h : l[j]? = some d) (f : D → D) : l.modify j f = l.set j (f d) := by
  apply List.ext_getElem?
  intro i
  rw [List.getElem?_modify, List.getElem?_set]
  by_cases hi : j = i
  · subst hi
    have hlt : j < l.length := by
      rcases Nat.lt_or_ge j l.length with h' | h'
      · exact h'
      · simp [List.getElem?_eq_none h'] at h
    have : l[j] = d := by rw [List.getElem?_eq_getElem hlt] at h; exact Option.some.inj h
    simp [hlt, this]
  · simp [hi]

theorem storeUnder_ok (s : Sim B c sl a) {t : TypeId} {t' : Ty} (ht : tyOf P t = some [t']) (hns : isSl t' = false) {x y : Operand} (ho : o.op = .store t x y) {b g' u j m : Nat} {i k : E} {tsb tsr : List Ty} {ex : E}
    (hb : c.hp b = some (.row g' u tsr ex true true true)) (hx : AVOk c (.uptr b g' u i j tsb k m) (a.eval x)) {ev : E} (hv : AVOk c (.sc t' ev) (a.eval y)) (htb : (tsb.drop m).take 1 = [t']) :
    Does P o a c { val := .undef, upd := [(b, .row g' u tsr (.app (.setd j m) [ex, i, k, ev]) true true true)] } := by
  obtain ⟨_, z0⟩ := hx.2.2 _ _ _ _ _ hb
  obtain ⟨z1, n, n', d1, d2, vb, vo, vlen, vcap, z2, z3, z4⟩ := z0 rfl
  have hbk := s.blks _ _ hb
  obtain ⟨⟨d, hd, hro⟩, hb2, hb3, hb4, hb5⟩ := hbk
  rcases hro with ⟨q1, _⟩ | ⟨o', len, cap, vs, e1, e2, e3, e4, e5, e6, e7, e8⟩
  · obtain ⟨_, _, _, q2, _⟩ := z2
    rw [q1] at q2; simp at q2
  have htop : (c.L b).top = [(c.L b).blk] := Loc.top_some e1
  have hnd := hb4 rfl rfl
  rw [htop, List.singleton_append] at hnd
  obtain ⟨hnt, hnf⟩ := List.nodup_cons.1 hnd
  have hjlt : j < tsr.length := by
    rcases Nat.lt_or_ge j tsr.length with h | h
    · exact h
    · simp [List.getElem?_eq_none h] at z1
  have hcell := cell_is (own := true) (cl := true) (live := true) (g := g') (u := u) (ex := ex) (d := d) (fp := (c.L b).fp) e1 e2 (by rw [e8.len, e3]) hjlt z2
  have hn : n < d.length := by
    obtain ⟨_, _, _, y1, y2, _⟩ := z2
    rw [e1] at y1
    simp only [Value.slice.injEq] at y1
    omega
  obtain ⟨p, f0, q, v0, d0, dn, hfp, a1, a2, a2', a3, a4⟩ := e8.focus hn z1
  rw [hcell] at a1
  simp only [Option.some.injEq] at a1
  subst a1
  cases a3 with
  | emp h _ => exact nomatch h
  | sl h1 h2 h3 h4 h5 h6 h7 =>
    rename_i vsb l f
    have hm : tsb[m]? = some t' := by
      have := congrArg (fun l => l[0]?) htb
      simpa using this
    have hmlt : m < tsb.length := by
      rcases Nat.lt_or_ge m tsb.length with h | h
      · exact h
      · simp [List.getElem?_eq_none h] at hm
    have hrv : Rep c.w true t' (a.eval y) (c.den ev) [] := (rep_own hv.2 hns).1
    obtain ⟨p2, old, q2, rfl, b1, b2⟩ := h7.set1 (n := n') (by omega) hm hrv
    have hold := b2 hns
    subst hold
    obtain ⟨cs, T, r1, r2⟩ := h5 rfl
    rw [hfp] at hnf hnt
    have hvb : vb ∈ (c.L b).fp := by rw [hfp]; simp
    have hne : (c.L b).blk ≠ vb := by
      intro e
      apply hnt
      rw [e]
      simp
    have hvl := h7.len
    have hfit : n' * tsb.length + m < vsb.length := by
      have : (n' + 1) * tsb.length ≤ l.length * tsb.length := Nat.mul_le_mul_right _ (by omega)
      rw [Nat.add_mul, Nat.one_mul] at this
      omega
    have hlc : l.length * tsb.length ≤ vcap * tsb.length := Nat.mul_le_mul_right _ (by omega)
    have hone := one_ok hv rfl
    have hcells : (a.eval y).cells.toList = [a.eval y] := by
      cases hq : a.eval y <;> first | rfl | (rw [hq] at hone; exact nomatch hone)
    have hrun := store_run (P := P) (c := c) ht ho z4 r1 (by rw [← Array.length_toList, hcells]; rfl) (by simp only [List.length_singleton]; omega) (by rw [hcells]; simpa using hone)
    rw [hcells] at hrun
    obtain ⟨w', hw'⟩ : ∃ w', w' = c.w.setRow vb (cs.toList.take (vo + n' * tsb.length + m) ++ [a.eval y] ++ cs.toList.drop (vo + n' * tsb.length + m + [t'].length)).toArray := ⟨_, rfl⟩
    rw [← hw'] at hrun
    have hheap : w'.heap[vb]? = some (.cells (cs.toList.take (vo + n' * tsb.length + m) ++ [a.eval y] ++ cs.toList.drop (vo + n' * tsb.length + m + [t'].length)).toArray T (0, 0)) := by rw [hw']; exact setRow_heap _ _ _ _ _ _ r1
    have hoth : ∀ k, k ≠ vb → w'.heap[k]? = c.w.heap[k]? := fun k hk => by rw [hw']; exact setRow_other _ _ _ _ hk
    have hsz : w'.heap.size = c.w.heap.size := by rw [hw']; simp
    have hold : ∀ k, k < vsb.length → cs.toList[vo + k]? = vsb[k]? := by
      intro k hk
      have := h1 k hk
      rw [cell_of_row _ _ _ _ _ _ r1] at this
      simpa using this
    have hseg := seg_get (l := cs.toList) (v := [a.eval y]) (o := vo) (vs := vsb) (p := n' * tsb.length + m) hfit (by have : cs.toList.length = cs.size := Array.length_toList; omega) hold
    have hset : vsb.take (n' * tsb.length + m) ++ [a.eval y] ++ vsb.drop (n' * tsb.length + m + [a.eval y].length) = vsb.set (n' * tsb.length + m) (a.eval y) := by
      rw [List.set_eq_take_append_cons_drop, if_pos hfit]
      simp
    have hal : ∀ {r : List Nat}, (∀ k ∈ r, k ≠ vb) → Alike c.w w' r := fun h k hk => hoth k (h k hk)
    have hsub : (p ++ q).Sublist (p ++ vb :: (p2 ++ [] ++ q2) ++ q) := (List.append_sublist_append_right q).2 (List.sublist_append_left p _)
    obtain ⟨nd1, nd2, nd3⟩ := List.nodup_append.1 hnf
    obtain ⟨nd4, nd5, nd6⟩ := List.nodup_append.1 nd1
    have nd7 := (List.nodup_cons.1 nd5).1
    have hrep : Rep w' true (.sl tsb) (.slice (some ⟨vb, vo, none⟩) vlen vcap) (.sl (l.modify n' fun x => x.set m (c.den ev))) (vb :: (p2 ++ [] ++ q2)) := by
      refine .sl (vs := vsb.set (n' * tsb.length + m) (a.eval y)) (fun k hk => ?_) (by simpa using h2) h3 h4 (fun _ => ⟨_, T, hheap, ?_⟩) (by omega) (b1.alike (hal fun k hk e => nd7 (e ▸ hk)))
      · rw [cell_of_row _ _ _ _ _ _ hheap, ← hset]
        rw [List.length_set] at hk
        have := hseg k hk
        simp only [List.length_singleton] at this ⊢
        rw [← this]
        simp only [List.getElem?_toArray, Nat.add_assoc]
      · simp only [List.size_toArray, List.length_append, List.length_take, List.length_drop, Array.length_toList, List.length_singleton]
        omega
    have hL := a4 w' _ (hal fun k hk e => nd6 k hk vb (List.mem_cons_self ..) e) (hal fun k hk e => nd3 vb (by simp) k hk e.symm) hrep
    refine does_skip hrun (eff_put (b := b) (us := []) (l := c.L b) (w' := w') s (fun _ h => nomatch h) (fun _ h => nomatch h) (by omega) (by rw [hw']; exact ⟨rfl, rfl, rfl⟩) (fun k hk h => hoth k fun e => h _ hb ?_) (by rw [hb]; exact Nat.le_refl _)
      (fun g2 u2 ts2 e2' own2 cl2 live2 hg2 h => ?_) (fun _ _ _ h => by simp at h) (fun k hk => ?_) (fun k hk _ => ⟨_, hb, hk⟩) (fun st => ?_) (fun _ => trivial))
    · subst e
      simp [hard, hvb]
    · simp only [Blk.row.injEq] at h
      obtain ⟨rfl, rfl, rfl, rfl, rfl, rfl, rfl⟩ := h
      refine ⟨u, ex, true, true, true, hb, rfl, rfl, fun _ => rfl, fun _ => ⟨Nat.le_refl _, fun hu n2 m2 ts' v' hm hcc => ?_⟩⟩
      obtain ⟨o3, l3, c3, y1, y2, y3⟩ := hcc
      refine ⟨o3, l3, c3, ?_, y2, ?_⟩
      · simpa [Ctx.put] using y1
      · simp only [Ctx.put, if_true]
        rw [cell_of_heap (hoth _ hne)]
        exact y3
    · exact .inr ⟨b, List.mem_cons_self .., _, hb, hk⟩
    · have hden : c.den (.app (.setd j m) [ex, i, k, ev]) = .sl (d.modify n fun cc => cc.modify j fun dd => .sl (dd.l.modify n' fun x => x.set m (c.den ev))) := by
        rw [den_app, dens_cons, dens_cons, dens_cons, dens_cons, dens_nil]
        simp [evalF, hd, d1, d2]
      refine ⟨⟨_, by rw [st.den]; exact hden, .inr ⟨o', len, cap, vs, e1, e2.alike (hoth _ hne), ?_, e4, e5, fun _ => (e6 rfl).alike (hoth _ hne), by show _ < w'.heap.size; omega, ?_⟩⟩, (fun h => nomatch h), (fun _ h => nomatch h), fun _ _ => ?_, fun _ => rfl⟩
      · simpa using e3
      · rw [hfp]
        have hmod : (d.modify n fun x => x.set j (.sl (l.modify n' fun x => x.set m (c.den ev)))) = d.modify n fun cc => cc.modify j fun dd => .sl (dd.l.modify n' fun x => x.set m (c.den ev)) := by
          apply List.ext_getElem?
          intro i'
          rw [List.getElem?_modify, List.getElem?_modify]
          by_cases hi : n = i'
          · subst hi
            simp only [if_true, a2, Option.map_eq_map, Option.map_some]
            rw [modify_set a2']
            rfl
          · simp [hi]
        rw [← hmod, ← hfp]
        exact hL
      · rw [htop, hfp]
        exact List.nodup_cons.2 ⟨hnt, hnf⟩

theorem store_ok (s : Sim B c sl a) (hg : (c.den g).b = true) {t : TypeId} {x y : Operand} (ho : o.op = .store t x y)
    (h : (opEff P sigs clean g o).val sl c.hp = some e) : Does P o a c e := by
  simp only [opEff, ho, Rd.val_bind] at h
  replace h := bind_some h; obtain ⟨av, hav, h⟩ := h
  replace h := bind_some h; obtain ⟨ax, hax, h⟩ := h
  have vv := evalG_ok s hg hav
  have vx := evalG_ok s hg hax
  simp only [storeEff, Rd.val_bind, Rd.val_opt] at h
  replace h := bind_some h; obtain ⟨ts, hts, h⟩ := h
  split at h
  · rename_i b g' off
    simp only [Rd.val_bind, Rd.val_blk, Option.bind_some] at h
    split at h
    case h_2 => simp at h
    rename_i g'' cells hb
    simp only [Rd.val_bind, Rd.if_bind, Bool.and_eq_true, beq_iff_eq, decide_eq_true_eq] at h
    obtain ⟨⟨⟨⟨⟨hp, rfl⟩, hle⟩, hl⟩, h1⟩, h⟩ := h
    simp at h; subst h
    rw [← List.append_assoc]
    exact storeBox_ok s hts ho hb (vx.2.2 _ hb) vv hp hl hle h1
  · rename_i b g' i j
    simp only [Rd.val_bind, Rd.val_blk, Option.bind_some] at h
    split at h
    case h_2 => simp at h
    rename_i g'' u tsb ex own cl hb
    simp only [Rd.val_bind, Rd.if_bind, Bool.and_eq_true, beq_iff_eq, Bool.not_eq_true', List.isEmpty_eq_false_iff] at h
    obtain ⟨⟨⟨⟨rfl, htb⟩, h0⟩, hp⟩, h⟩ := h
    replace h := bind_some h; obtain ⟨⟨e', o', same, us⟩, hq, h⟩ := h
    simp only [Rd.val_bind, Rd.if_bind, List.all_eq_true, Bool.not_eq_true', beq_eq_false_iff_ne] at h
    obtain ⟨hne, h⟩ := h
    simp at h; subst h
    exact storeElem_ok s hts ho hb vx vv (Ty.eqL htb) h0 hp hq hne
  · rename_i b g' u i j tsb k m
    simp only [Rd.val_bind, Rd.val_blk, Option.bind_some] at h
    split at h
    case h_2 => simp at h
    rename_i g'' u' tsr ex hb
    simp only [Rd.val_bind, Rd.if_bind, Bool.and_eq_true, beq_iff_eq, decide_eq_true_eq] at h
    obtain ⟨⟨⟨⟨⟨rfl, rfl⟩, htb⟩, hns⟩, hl⟩, h⟩ := h
    split at h
    case h_2 => simp at h
    rename_i t' ev
    simp only [Rd.val_bind, Rd.if_bind] at h
    obtain ⟨ht', h⟩ := h
    simp at h; subst h
    have := Ty.eqL ht'
    subst this
    exact storeUnder_ok s hts (by simpa [noSl] using hns) ho hb vx vv (Ty.eqL htb)
  · simp at h

end
end Go.Sx
