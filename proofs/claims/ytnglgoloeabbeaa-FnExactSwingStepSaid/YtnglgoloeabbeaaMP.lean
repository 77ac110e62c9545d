/-
  The machine, part P: rows that a call has written into.
-/
import Derived.Test.YtnglgoloeabbeaaMO
namespace Go.Sx
open Go Go.RowKit
set_option linter.unusedSimpArgs false
set_option linter.unusedVariables false

theorem RepC.focus2 {w : World} {ow : Bool} : ∀ {ts : List Ty} {vs : List Value} {ds : List D} {f : List Nat}, RepC w ow ts vs ds f → ∀ {j : Nat} {t : Ty}, ts[j]? = some t →
    ∃ p f0 q v0 d0, f = p ++ f0 ++ q ∧ vs[j]? = some v0 ∧ ds[j]? = some d0 ∧ Rep w ow t v0 d0 f0 ∧
      ∀ w' d1 f1, Alike w w' p → Alike w w' q → Rep w' ow t v0 d1 f1 → RepC w' ow ts vs (ds.set j d1) (p ++ f1 ++ q)
  | _, _, _, _, .nil, j, t, h => by simp at h
  | _, _, _, _, .cons (f := f0) (g := g0) h1 h2, 0, t, h => by
    simp at h; subst h
    exact ⟨[], f0, g0, _, _, rfl, rfl, rfl, h1, fun w' d1 f1 _ hq hr => .cons hr (h2.alike hq)⟩
  | _, _, _, _, .cons (f := f0) (g := g0) h1 h2, j + 1, t, h => by
    obtain ⟨p, f1, q, v0, d0, rfl, a1, a2, a3, a4⟩ := RepC.focus2 h2 (j := j) (by simpa using h)
    exact ⟨f0 ++ p, f1, q, v0, d0, by simp, by simpa using a1, by simpa using a2, a3, fun w' d1 f1 hp hq hr => by simpa using RepC.cons (h1.alike hp.left) (a4 w' d1 f1 hp.right hq hr)⟩

theorem RepL.focus2 {w : World} {ow : Bool} {ts : List Ty} : ∀ {vs : List Value} {l : List (List D)} {f : List Nat}, RepL w ow ts vs l f → ∀ {n j : Nat} {t : Ty}, n < l.length → ts[j]? = some t →
    ∃ p f0 q v0 d0 dn, f = p ++ f0 ++ q ∧ vs[n * ts.length + j]? = some v0 ∧ l[n]? = some dn ∧ dn[j]? = some d0 ∧ Rep w ow t v0 d0 f0 ∧
      ∀ w' d1 f1, Alike w w' p → Alike w w' q → Rep w' ow t v0 d1 f1 → RepL w' ow ts vs (l.modify n fun x => x.set j d1) (p ++ f1 ++ q)
  | _, _, _, .nil, n, _, _, hn, _ => by simp at hn
  | _, _, _, .cons (vc := vc) (f := f0) (g := g0) h1 h2, 0, j, t, hn, h => by
    obtain ⟨p, f1, q, v0, d0, rfl, a1, a2, a3, a4⟩ := h1.focus2 h
    have hj : j < vc.length := by
      rcases Nat.lt_or_ge j vc.length with h | h
      · exact h
      · simp [List.getElem?_eq_none h] at a1
    refine ⟨p, f1, q ++ g0, v0, d0, _, by simp, ?_, rfl, a2, a3, fun w' d1 f1 hp hq hr => by simpa using RepL.cons (a4 w' d1 f1 hp hq.left hr) (h2.alike hq.right)⟩
    rw [Nat.zero_mul, Nat.zero_add, List.getElem?_append_left hj, a1]
  | _, _, _, .cons (vc := vc) (f := f0) (g := g0) h1 h2, n + 1, j, t, hn, h => by
    obtain ⟨p, f1, q, v0, d0, dn, rfl, a1, a2, a2', a3, a4⟩ := RepL.focus2 h2 (n := n) (by simpa using hn) h
    refine ⟨f0 ++ p, f1, q, v0, d0, dn, by simp, ?_, by simpa using a2, a2', a3, fun w' d1 f1 hp hq hr => by simpa using RepL.cons (h1.alike hp.left) (a4 w' d1 f1 hp.right hq hr)⟩
    have e1 : (n + 1) * ts.length + j = vc.length + (n * ts.length + j) := by rw [h1.len.1, Nat.add_mul]; omega
    rw [e1, List.getElem?_append_right (by omega), Nat.add_sub_cancel_left, a1]

section
variable {c : Ctx} {sl : Nat → AV} {a : Act} {B : Base}

/-- What holds of a call's memory. -/
structure Around (c : Ctx) (w' : World) (M A O : List Nat) : Prop where
  kept : Kept c.w w' M
  sub : ∀ k ∈ M, k ∈ A
  own : ∀ k ∈ O, c.w.heap.size ≤ k ∨ k ∈ A

/-- What a row that was handed over to be written into turns to. -/
def wrBackRd (ts : List Ty) (keep : Bool) (e' : E) (x : AV) : Rd (Option (Nat × Blk)) := match x with
  | .row b _ => do
    match ← rdBlk b with
    | some (.row g u ts0 _ own clean live) => .pure (some (b, Blk.row g (if noSl ts then u else u + 1) ts0 e' own (clean && (keep || noSl ts)) live))
    | _ => .fail
  | .under b _ _ i j _ => do
    match ← rdBlk b with
    | some (.row g u ts0 e own clean live) => .pure (some (b, Blk.row g u ts0 (.app (.setl j) [e, i, e']) own (clean && (keep || noSl ts)) live))
    | _ => .fail
  | .nil => .pure none
  | _ => .fail

/-- The entry of one row that was handed over to be written into. -/
def WrBack (c : Ctx) (ts : List Ty) (x : AV) (v : Value) (bs : List Nat) (f : List Nat) : Prop :=
  ∀ (w' : World) (M A : List Nat) (Nout : List Nat) (H O : List Nat) (keep : Bool) (e' : E) (d : D) (f1 : List Nat) (q : Option (Nat × Blk)), Around c w' M A O → (∀ k ∈ A, k ∈ f ∨ Src c Nout k) → (∀ b ∈ bs, b ∉ Nout) →
    Rep w' true (.sl ts) v d f1 → c.den e' = d → (∀ k ∈ topOf v, k ∈ H) → (∀ k ∈ f1, k ∈ O) →
    (wrBackRd ts keep e' x).val (fun _ => .undef) c.hp = some q →
    ∃ zs : List Ent, zs.map (fun z => (z.b, z.x)) = q.toList ∧ (zs.map Ent.o).flatten.Sublist f1 ∧ (∀ z ∈ zs, EntOk c w' H keep A z) ∧ (∀ z ∈ zs, z.b ∈ bs) ∧ (∀ b ∈ bs, ∃ z ∈ zs, z.b = b) ∧
      ∀ c', Placed c c' w' zs → f1.Nodup → ∀ z ∈ zs, BlkOk c' z.x z.l

theorem lendWr_back (s : Sim B c sl a) {sl0 : Nat → AV} {ts : List Ty} {x : AV} {v : Value} (hv : AVOk c x v) {q : E × List Nat × Bool} (h : (lendWr ts x).val sl0 c.hp = some q) : q.2.2 = true ∧ ∃ f, Own1 c ts v q.1 q.2.1 q.2.2 f ∧ WrBack c ts x v q.2.1 f := by
  unfold lendWr at h
  split at h
  · rename_i b g
    simp only [Rd.val_bind, Rd.val_blk, Option.bind_some] at h
    split at h
    case h_2 => simp at h
    rename_i g' u ts' e cl hb
    simp only [Rd.val_bind, Rd.if_bind, Bool.and_eq_true, Bool.or_eq_true, beq_iff_eq] at h
    obtain ⟨⟨⟨rfl, h1⟩, h2⟩, h⟩ := h
    simp at h; subst h
    have := Ty.eqL h1
    subst this
    have hhv := hv.2.2 _ _ _ _ _ _ hb
    rw [hhv]
    refine ⟨rfl, _, own1_row s hb fun _ => h2, ?_⟩
    intro w' M A Nout H O keep e' d f1 q har hA hN hr hd hH hO hq
    simp only [wrBackRd, Rd.val_bind, Rd.val_blk, Option.bind_some, hb] at hq
    simp at hq; subst hq
    obtain ⟨y1, y2, y3, ll, y4, y5⟩ := locOf_own hr
    have hbk := s.blks _ _ hb
    -- the loc: the block's number stays, also where the slice is nil
    have hloc : ∃ l0 : Loc, l0.blk = (c.L b).blk ∧ l0.hdr = (c.L b).hdr ∧ l0.top = topOf (c.L b).hdr ∧ f1 = topOf (c.L b).hdr ++ l0.fp ∧ ∀ c' : Ctx, c'.w = w' → RowOk c' ts' ll true true l0 := by
      obtain ⟨⟨d0, _, h1⟩, _⟩ := hbk
      rcases h1 with ⟨e1, _⟩ | ⟨o', len, cap, vs, e1, _⟩
      · rw [e1] at hr y1 y3 y5
        refine ⟨⟨(c.L b).blk, (c.L b).hdr, (locOf (.slice none 0 0) f1).fp⟩, rfl, rfl, ?_, ?_, fun c' hw => ?_⟩
        · simp [Loc.top, topOf, e1]
        · rw [e1]; exact y3
        · rcases y5 c' hw true true with ⟨z1, z2, z3⟩ | ⟨o2, l2, c2, v2, z1, _⟩
          · exact .inl ⟨e1, z2, z3⟩
          · rw [y1] at z1; simp at z1
      · refine ⟨locOf (c.L b).hdr f1, ?_, y1, y2, y3, fun c' hw => y5 c' hw true true⟩
        rw [e1]; rfl
    obtain ⟨l0, m1, m2, m3, m4, m5⟩ := hloc
    have hent : EntOk c w' H keep A ⟨b, .row g' (if noSl ts' then u else u + 1) ts' e' true (cl && (keep || noSl ts')) true, l0, f1, []⟩ := {
      accs := fun k hk => .inl (by simp only [acc, m3, if_true] at hk; rw [m4]; exact hk)
      kept := fun _ h => nomatch h
      hard := fun k hk => by
        simp only [hard, m3] at hk
        rcases List.mem_append.1 hk with hk | hk
        · exact .inl (hH k hk)
        · split at hk
          · rename_i hc
            simp only [Bool.and_eq_true, Bool.or_eq_true] at hc
            rcases hc.2 with hc | hc
            · exact .inr (.inl ⟨hc, by rw [m4]; exact List.mem_append_right _ hk⟩)
            · exfalso
              have := m5 { c with w := w' } rfl
              rcases this with ⟨_, _, z3⟩ | ⟨_, _, _, _, _, _, _, _, _, _, _, z8⟩
              · rw [z3] at hk; exact nomatch hk
              · rw [noSl_fpL hc z8] at hk; exact nomatch hk
          · exact nomatch hk
      gens := by simp only [hb]; exact Nat.le_refl _
      row := fun g2 u2 ts2 e2 own2 cl2 live2 hg2 hx => by
        simp only [Blk.row.injEq] at hx
        obtain ⟨rfl, rfl, rfl, rfl, rfl, rfl, rfl⟩ := hx
        refine ⟨u, e, true, cl, true, hb, m2, m1, fun _ => rfl, fun _ => ⟨by split <;> omega, fun hu n j ts3 v3 hj _ => ?_⟩⟩
        exfalso
        split at hu
        · rename_i hns
          simp only [noSl, List.all_eq_true, Bool.not_eq_true'] at hns
          have := hns _ (List.mem_of_getElem? hj)
          simp [isSl] at this
        · omega
      box := fun _ _ _ h => by simp at h }
    refine ⟨[⟨b, .row g' (if noSl ts' then u else u + 1) ts' e' true (cl && (keep || noSl ts')) true, l0, f1, []⟩], rfl, by simp, fun z hz => ?_, fun z hz => by rw [List.mem_singleton.1 hz]; exact List.mem_singleton.2 rfl, fun b' hb' => ⟨_, List.mem_singleton.2 rfl, (List.mem_singleton.1 hb').symm⟩, fun c' hp hn z hz => ?_⟩
    · rw [List.mem_singleton.1 hz]; exact hent
    · rw [List.mem_singleton.1 hz]
      refine ⟨⟨ll, by rw [hp.den, hd]; exact y4, m5 c' hp.w⟩, (fun h => nomatch h), (fun _ h => nomatch h), fun _ _ => ?_, fun _ => rfl⟩
      simp only [m3]
      rw [← m4]
      exact hn
  · rename_i b g u i j ts0
    simp only [Rd.val_bind, Rd.val_blk, Option.bind_some] at h
    split at h
    case h_2 => simp at h
    rename_i g' u' tsr e hb
    simp only [Rd.val_bind, Rd.if_bind, Bool.and_eq_true, beq_iff_eq] at h
    obtain ⟨⟨⟨rfl, rfl⟩, h1⟩, h⟩ := h
    simp at h; subst h
    have := Ty.eqL h1
    subst this
    obtain ⟨a1, a2⟩ := hv.2.2 _ _ _ _ _ hb
    obtain ⟨b1, n, b2, b3⟩ := a2 rfl
    have hbk := s.blks _ _ hb
    obtain ⟨⟨d, hd, hro⟩, hb2, hb3, hb4, hb5⟩ := hbk
    rcases hro with ⟨q1, _⟩ | ⟨o', len, cap, vs, e1, e2, e3, e4, e5, e6, e7, e8⟩
    · obtain ⟨_, _, _, q2, _⟩ := b3
      rw [q1] at q2; simp at q2
    have hjlt : j < tsr.length := by
      rcases Nat.lt_or_ge j tsr.length with h | h
      · exact h
      · simp [List.getElem?_eq_none h] at b1
    have hcell := cell_is (own := true) (cl := true) (live := true) (g := g') (u := u') (ex := e) (d := d) (fp := (c.L b).fp) e1 e2 (by rw [e8.len, e3]) hjlt b3
    have hm : n < d.length := by
      obtain ⟨_, _, _, y1, y2, _⟩ := b3
      rw [e1] at y1
      simp only [Value.slice.injEq] at y1
      omega
    obtain ⟨p, f0, q, v0, d0, dn, hfp, z1, z2, z3, z4, z5⟩ := e8.focus2 hm b1
    rw [hcell] at z1
    simp only [Option.some.injEq] at z1
    subst z1
    have htop : (c.L b).top = [(c.L b).blk] := Loc.top_some e1
    have hnd := hb4 rfl rfl
    rw [htop, List.singleton_append] at hnd
    obtain ⟨hnt, hnf⟩ := List.nodup_cons.1 hnd
    rw [hfp] at hnf hnt
    obtain ⟨nd1, nd2, nd3⟩ := List.nodup_append.1 hnf
    obtain ⟨nd4, nd5, nd6⟩ := List.nodup_append.1 nd1
    have hden : c.den (.cell e i j) = d0 := by
      rw [den_cell b2, hd]
      simp [List.getD_eq_getElem?_getD, z2, z3]
    have hin : ∀ k ∈ f0, Hsrc c [b] k := fun k hk => ⟨b, List.mem_singleton.2 rfl, _, hb, by simp [hard, hfp, hk]⟩
    refine ⟨rfl, f0, ⟨by rw [hden]; exact z4, nd5, fun k hk => (hin k hk).src s, fun k hk => ?_, fun _ k hk => hin k hk⟩, ?_⟩
    · obtain ⟨g2, hg2⟩ := topOf_rep z4 rfl
      exact hin k (by rw [hg2]; exact List.mem_append_left _ hk)
    intro w' M A Nout H O keep e' d1 f1 qq har hA hN hr hd1 hH hO hq
    simp only [wrBackRd, Rd.val_bind, Rd.val_blk, Option.bind_some, hb] at hq
    simp at hq; subst hq
    -- what is kept of the row
    have accK : ∀ k ∈ (c.L b).blk :: (p ++ q), k ∈ acc (.row g' u' tsr e true true true) (c.L b) ∧ k ∈ hard (.row g' u' tsr e true true true) (c.L b) ∧ k ∉ f0 := by
      intro k hk
      rcases List.mem_cons.1 hk with rfl | hk
      · exact ⟨by simp [acc, htop], by simp [hard, htop], fun h => hnt (by simp [h])⟩
      · rcases List.mem_append.1 hk with hk | hk
        · exact ⟨by simp [acc, hfp, hk], by simp [hard, hfp, hk], fun h => nd6 k hk k h rfl⟩
        · exact ⟨by simp [acc, hfp, hk], by simp [hard, hfp, hk], fun h => nd3 k (List.mem_append_right _ h) k hk rfl⟩
    have notA : ∀ k ∈ (c.L b).blk :: (p ++ q), k ∉ A := by
      intro k hk hkA
      obtain ⟨k1, k2, k3⟩ := accK k hk
      rcases hA k hkA with h | ⟨b', hb', x', r1, r2⟩
      · exact k3 h
      · exact s.disj b b' _ _ (fun e => hN b (List.mem_singleton.2 rfl) (e ▸ hb')) hb r1 k k1 r2
    have hlt : ∀ k ∈ (c.L b).blk :: (p ++ q), k < c.w.heap.size := fun k hk => acc_lt s hb k (accK k hk).1
    have still : ∀ k ∈ (c.L b).blk :: (p ++ q), w'.heap[k]? = c.w.heap[k]? := fun k hk => har.kept.block k (hlt k hk) fun hm => notA k hk (har.sub k hm)
    have hblk := still _ (List.mem_cons_self ..)
    have hrep := z5 w' d1 f1 (fun k hk => still k (List.mem_cons_of_mem _ (List.mem_append_left _ hk))) (fun k hk => still k (List.mem_cons_of_mem _ (List.mem_append_right _ hk))) hr
    have apart : ∀ k ∈ (c.L b).blk :: (p ++ q), k ∉ f1 := by
      intro k hk hkf
      rcases har.own k (hO k hkf) with h | h
      · have := hlt k hk; omega
      · exact notA k hk h
    have ht2 : ({ c.L b with fp := p ++ f1 ++ q } : Loc).top = [(c.L b).blk] := Loc.top_some e1
    have hent : EntOk c w' H keep A ⟨b, .row g' u' tsr (.app (.setl j) [e, i, e']) true (keep || noSl ts0) true, { c.L b with fp := p ++ f1 ++ q }, f1, (c.L b).blk :: (p ++ q)⟩ := {
      accs := fun k hk => by
        simp only [acc, ht2, if_true, List.singleton_append, List.mem_cons, List.mem_append] at hk
        simp only [List.mem_cons, List.mem_append]
        rcases hk with h | ((h | h) | h)
        · exact .inr (.inl h)
        · exact .inr (.inr (.inl h))
        · exact .inl h
        · exact .inr (.inr (.inr h))
      kept := fun k hk => ⟨notA k hk, _, hb, (accK k hk).1⟩
      hard := fun k hk => by
        simp only [hard, ht2] at hk
        rcases List.mem_append.1 hk with hk | hk
        · rw [List.mem_singleton.1 hk]
          exact .inr (.inr ⟨List.mem_cons_self .., _, hb, (accK _ (List.mem_cons_self ..)).2.1⟩)
        · split at hk
          case isFalse => exact nomatch hk
          rename_i hc
          rcases List.mem_append.1 hk with hk | hk
          · rcases List.mem_append.1 hk with hk | hk
            · exact .inr (.inr ⟨List.mem_cons_of_mem _ (List.mem_append_left _ hk), _, hb, (accK _ (List.mem_cons_of_mem _ (List.mem_append_left _ hk))).2.1⟩)
            · simp only [Bool.or_eq_true] at hc
              rcases hc with hc | hc
              · exact .inr (.inl ⟨hc, hk⟩)
              · refine .inl (hH k ?_)
                cases hr with
                | nil => exact nomatch hk
                | emp h _ => exact nomatch h
                | sl h1 h2 h3 h4 h5 h6 h7 =>
                  rw [noSl_fpL hc h7] at hk
                  exact hk
          · exact .inr (.inr ⟨List.mem_cons_of_mem _ (List.mem_append_right _ hk), _, hb, (accK _ (List.mem_cons_of_mem _ (List.mem_append_right _ hk))).2.1⟩)
      gens := by simp only [hb]; exact Nat.le_refl _
      row := fun g2 u2 ts2 e2 own2 cl2 live2 hg2 hx => by
        simp only [Blk.row.injEq] at hx
        obtain ⟨rfl, rfl, rfl, rfl, rfl, rfl, rfl⟩ := hx
        refine ⟨u', e, true, true, true, hb, rfl, rfl, fun _ => rfl, fun _ => ⟨Nat.le_refl _, fun _ n3 j3 ts3 v3 hj hcc => ?_⟩⟩
        obtain ⟨o3, l3, c3, x1, x2, x3⟩ := hcc
        simp only [x1]
        rw [cell_of_heap hblk]
        exact x3
      box := fun _ _ _ h => by simp at h }
    refine ⟨[⟨b, .row g' u' tsr (.app (.setl j) [e, i, e']) true (keep || noSl ts0) true, { c.L b with fp := p ++ f1 ++ q }, f1, (c.L b).blk :: (p ++ q)⟩], by simp, by simp, fun z hz => ?_, fun z hz => by rw [List.mem_singleton.1 hz]; exact List.mem_singleton.2 rfl, fun b' hb' => ⟨_, List.mem_singleton.2 rfl, (List.mem_singleton.1 hb').symm⟩, fun c' hp hn z hz => ?_⟩
    · rw [List.mem_singleton.1 hz]; exact hent
    · rw [List.mem_singleton.1 hz]
      have hdset : c.den (.app (.setl j) [e, i, e']) = .sl (d.modify n fun x => x.set j d1) := by
        rw [den3, hd, b2, hd1]; simp [evalF]
      refine ⟨⟨_, by rw [hp.den]; exact hdset, .inr ⟨o', len, cap, vs, e1, by rw [hp.w]; exact e2.alike hblk, by simpa using e3, e4, e5, fun _ => by rw [hp.w]; exact (e6 rfl).alike hblk, by rw [hp.w]; exact Nat.lt_of_lt_of_le e7 har.kept.size, by rw [hp.w]; exact hrep⟩⟩,
        (fun h => nomatch h), (fun _ h => nomatch h), fun _ _ => ?_, fun _ => rfl⟩
      rw [ht2, List.singleton_append]
      refine List.nodup_cons.2 ⟨fun hm => ?_, List.nodup_append.2 ⟨List.nodup_append.2 ⟨nd4, hn, fun x hx y hy e => ?_⟩, nd2, fun x hx y hy e => ?_⟩⟩
      · rcases List.mem_append.1 hm with hm | hm
        · rcases List.mem_append.1 hm with hm | hm
          · exact hnt (by simp [hm])
          · exact apart _ (List.mem_cons_self ..) hm
        · exact hnt (by simp [hm])
      · exact apart x (List.mem_cons_of_mem _ (List.mem_append_left _ hx)) (e ▸ hy)
      · rcases List.mem_append.1 hx with hx | hx
        · exact nd3 x (List.mem_append_left _ hx) y hy e
        · exact apart y (List.mem_cons_of_mem _ (List.mem_append_right _ hy)) (e ▸ hx)
  · simp at h; subst h
    rw [hv]
    refine ⟨rfl, _, own1_nil, ?_⟩
    intro w' M A Nout H O keep e' d f1 q har hA hN hr hd hH hO hq
    simp [wrBackRd] at hq; subst hq
    exact ⟨[], rfl, by simp, (fun _ h => nomatch h), (fun _ h => nomatch h), (fun _ h => nomatch h), fun c' _ _ z hz => nomatch hz⟩
  · simp at h

end
end Go.Sx
