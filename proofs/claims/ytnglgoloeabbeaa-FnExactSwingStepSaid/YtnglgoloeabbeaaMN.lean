/-
  The machine, part N: what is handed to a call.
-/
import Derived.Test.YtnglgoloeabbeaaMM
namespace Go.Sx
open Go Go.RowKit
set_option linter.unusedSimpArgs false
set_option linter.unusedVariables false

/-- A block of one of these names that may be written. -/
def Hsrc (c : Ctx) (N : List Nat) (k : Nat) : Prop := ∃ b ∈ N, ∃ x, c.hp b = some x ∧ k ∈ hard x (c.L b)

theorem Hsrc.mono {c : Ctx} {N M : List Nat} {k : Nat} (h : Hsrc c N k) (hs : ∀ b ∈ N, b ∈ M) : Hsrc c M k := by
  obtain ⟨b, hb, r⟩ := h
  exact ⟨b, hs b hb, r⟩

section
variable {P : Program} {c : Ctx} {sl : Nat → AV} {a : Act} {B : Base}

theorem Hsrc.src (s : Sim B c sl a) {N : List Nat} {k : Nat} (h : Hsrc c N k) : Src c N k := by
  obtain ⟨b, hb, x, h1, h2⟩ := h
  exact ⟨b, hb, x, h1, hard_acc (s.blks _ _ h1) k h2⟩

theorem topOf_slice {b o' len cap : Nat} : topOf (.slice (some ⟨b, o', none⟩) len cap) = [b] := rfl

/-- What is looked at, with the names whose blocks may be written yet. -/
theorem view_ok (s : Sim B c sl a) {sl0 : Nat → AV} {t : Ty} {x : AV} {v : Value} (hv : AVOk c x v) {e : E} (h : (viewCell t x).val sl0 c.hp = some e) {ns : List Nat} (hn : x.names.val sl0 c.hp = some ns) :
    ∃ f, Rep c.w false t v (c.den e) f ∧ ∀ k ∈ f, Perm c.hp c.L k ∨ Src c ns k := by
  unfold viewCell at h
  split at h
  · rename_i ts
    cases x <;> simp only [viewSl, Rd.val_fail] at h <;> try (simp at h; done)
    case nil => simp at h; subst h; rw [hv]; exact ⟨[], .nil, fun _ h => nomatch h⟩
    case ro ts' e' =>
      simp at h
      obtain ⟨h1, rfl⟩ := h
      rw [← Ty.eqL h1]
      obtain ⟨fp, hr, hp⟩ := hv
      exact ⟨fp, hr, fun k hk => .inl (hp k hk)⟩
    case orig ts' i =>
      simp at h
      obtain ⟨h1, rfl⟩ := h
      rw [← Ty.eqL h1]
      obtain ⟨_, fp, hr, hp⟩ := hv
      exact ⟨fp, hr, fun k hk => .inl (hp k hk)⟩
    case row b g =>
      simp only [Rd.val_bind, Rd.val_blk, Option.bind_some] at h
      split at h <;> simp at h
      rename_i g' u ts' e' own clean live hb
      obtain ⟨⟨rfl, h1⟩, rfl⟩ := h
      simp only [AV.names, Rd.val_bind, Rd.val_blk, Option.bind_some, hb] at hn
      simp at hn; subst hn
      rw [← Ty.eqL h1, hv.2.2 _ _ _ _ _ _ hb]
      refine ⟨_, row_rep (s.blks _ _ hb), fun k hk => ?_⟩
      cases live with
      | true => exact row_took s hb k hk
      | false => exact .inl ((s.blks _ _ hb).2.1 rfl k hk)
    case part b g lo hi =>
      simp only [Rd.val_bind, Rd.val_blk, Option.bind_some] at h
      split at h <;> simp at h
      rename_i g' u ts' e' own clean live hb
      obtain ⟨⟨rfl, h1⟩, rfl⟩ := h
      simp only [AV.names, Rd.val_bind, Rd.val_blk, Option.bind_some, hb] at hn
      simp at hn; subst hn
      obtain ⟨l, hh, a1, a2, a3⟩ := hv.2.2 _ _ _ _ _ _ hb
      obtain ⟨d, hd⟩ := RowOk.isSl (s.blks _ _ hb)
      have hr := row_rep (s.blks _ _ hb)
      rw [hd] at hr
      obtain ⟨f, hsub, hf⟩ := part_rep hr a3
      rw [den_slice a1 a2, hd, ← Ty.eqL h1]
      refine ⟨f, hf, fun k hk => ?_⟩
      cases live with
      | true => exact row_took s hb k (hsub.subset hk)
      | false => exact .inl ((s.blks _ _ hb).2.1 rfl k (hsub.subset hk))
    case under b g u i j ts0 =>
      simp only [Rd.val_bind, Rd.val_blk, Option.bind_some] at h
      split at h <;> simp at h
      rename_i g' u' tsr e' own clean hb
      obtain ⟨⟨⟨rfl, rfl⟩, h1⟩, rfl⟩ := h
      simp only [AV.names, Rd.val_bind, Rd.val_blk, Option.bind_some, hb] at hn
      simp at hn; subst hn
      obtain ⟨a1, a2⟩ := hv.2.2 _ _ _ _ _ hb
      obtain ⟨b1, n, b2, b3⟩ := a2 rfl
      obtain ⟨f, hf, hsub⟩ := cellAt_rep (s.blks _ _ hb) b3 b1
      rw [den_cell b2, ← Ty.eqL h1]
      refine ⟨f, hf.ro, fun k hk => ?_⟩
      cases clean with
      | false => exact .inl (low_perm s hb k (hsub k hk))
      | true =>
        have ho := (s.blks _ _ hb).2.2.2.2 rfl
        subst ho
        exact .inr ⟨b, List.mem_singleton.2 rfl, _, hb, by simp [acc]; exact .inr (hsub k hk)⟩
  · rename_i t t' ex
    simp only [Rd.val_bind, Rd.if_bind] at h
    obtain ⟨h1, h⟩ := h
    simp at h; subst h
    have := Ty.eq_of_beq h1
    subst this
    exact ⟨[], hv.2, fun _ h => nomatch h⟩
  · simp at h

/-- What is handed over whole. -/
structure Own1 (c : Ctx) (ts : List Ty) (v : Value) (e : E) (bs : List Nat) (hd : Bool) (f : List Nat) : Prop where
  rep : Rep c.w true (.sl ts) v (c.den e) f
  nodup : f.Nodup
  src : ∀ k ∈ f, Src c bs k
  top : ∀ k ∈ topOf v, Hsrc c bs k
  all : hd = true → ∀ k ∈ f, Hsrc c bs k

theorem own1_nil {ts : List Ty} {hd : Bool} : Own1 c ts (.slice none 0 0) .nil [] hd [] := ⟨.nil, List.nodup_nil, (fun _ h => nomatch h), (fun _ h => nomatch h), fun _ _ h => nomatch h⟩

theorem own1_row (s : Sim B c sl a) {b g u : Nat} {ts : List Ty} {e : E} {cl : Bool} (hb : c.hp b = some (.row g u ts e true cl true)) {hd : Bool} (hc : hd = true → cl = true ∨ noSl ts = true) :
    Own1 c ts (c.L b).hdr e [b] hd ((c.L b).top ++ (c.L b).fp) := by
  have hbk := s.blks _ _ hb
  have htop : topOf (c.L b).hdr = (c.L b).top := by
    obtain ⟨⟨d, _, h1⟩, _⟩ := hbk
    rcases h1 with ⟨e1, _⟩ | ⟨o', len, cap, vs, e1, _⟩ <;> simp [Loc.top, topOf, e1]
  refine ⟨row_rep_own hbk, hbk.2.2.2.1 rfl rfl, fun k hk => ⟨b, List.mem_singleton.2 rfl, _, hb, by simpa [acc] using hk⟩, fun k hk => ⟨b, List.mem_singleton.2 rfl, _, hb, ?_⟩, fun h k hk => ⟨b, List.mem_singleton.2 rfl, _, hb, ?_⟩⟩
  · rw [htop] at hk
    simp only [hard]
    exact List.mem_append_left _ hk
  · simp only [hard]
    rcases List.mem_append.1 hk with hk | hk
    · exact List.mem_append_left _ hk
    · rcases hc h with h | h
      · rw [h]; exact List.mem_append_right _ hk
      · obtain ⟨⟨d, _, h1⟩, _⟩ := hbk
        rcases h1 with ⟨_, _, e1⟩ | ⟨o', len, cap, vs, e1, e2, e3, e4, e5, e6, e7, e8⟩
        · rw [e1] at hk; exact nomatch hk
        · rw [noSl_fpL h e8] at hk; exact nomatch hk

theorem lendOwn_ok (s : Sim B c sl a) {sl0 : Nat → AV} {ts : List Ty} {x : AV} {v : Value} (hv : AVOk c x v) {q : E × List Nat × Bool} (h : (lendOwn ts x).val sl0 c.hp = some q) : ∃ f, Own1 c ts v q.1 q.2.1 q.2.2 f := by
  unfold lendOwn at h
  split at h
  · rename_i b g
    simp only [Rd.val_bind, Rd.val_blk, Option.bind_some] at h
    split at h
    case h_2 => simp at h
    rename_i g' u ts' e cl hb
    simp only [Rd.val_bind, Rd.if_bind, Bool.and_eq_true, beq_iff_eq] at h
    obtain ⟨⟨rfl, h1⟩, h⟩ := h
    simp at h; subst h
    have := Ty.eqL h1
    subst this
    rw [hv.2.2 _ _ _ _ _ _ hb]
    exact ⟨_, own1_row s hb fun h => by simpa using h⟩
  · simp at h; subst h
    rw [hv]
    exact ⟨_, own1_nil⟩
  · simp at h

theorem lendGive_ok (s : Sim B c sl a) {sl0 : Nat → AV} {ts : List Ty} {x : AV} {v : Value} (hv : AVOk c x v) {q : E × List Nat × Bool} (h : (lendGive ts x).val sl0 c.hp = some q) : q.2.2 = true ∧ (∃ f, Own1 c ts v q.1 q.2.1 q.2.2 f) ∧ (noSl ts = true ∨ v = .slice none 0 0) := by
  unfold lendGive at h
  split at h
  · rename_i b g
    simp only [Rd.val_bind, Rd.val_blk, Option.bind_some] at h
    split at h
    case h_2 => simp at h
    rename_i g' u ts' e cl hb
    simp only [Rd.val_bind, Rd.if_bind, Bool.and_eq_true, beq_iff_eq] at h
    obtain ⟨⟨⟨rfl, h1⟩, h2⟩, h⟩ := h
    simp at h; subst h
    have := Ty.eqL h1
    subst this
    rw [hv.2.2 _ _ _ _ _ _ hb]
    exact ⟨rfl, ⟨_, own1_row s hb fun _ => .inr h2⟩, .inl h2⟩
  · simp at h; subst h
    rw [hv]
    exact ⟨rfl, ⟨_, own1_nil⟩, .inr rfl⟩
  · simp at h

theorem topOf_rep {w : World} {ow : Bool} {ts : List Ty} {v : Value} {d : D} {f : List Nat} (h : Rep w ow (.sl ts) v d f) (ho : ow = true) : ∃ g, f = topOf v ++ g := by
  cases h with
  | nil => exact ⟨[], rfl⟩
  | emp h _ => rw [ho] at h; exact nomatch h
  | sl _ _ _ _ _ _ _ => exact ⟨_, rfl⟩

theorem lendWr_ok (s : Sim B c sl a) {sl0 : Nat → AV} {ts : List Ty} {x : AV} {v : Value} (hv : AVOk c x v) {q : E × List Nat × Bool} (h : (lendWr ts x).val sl0 c.hp = some q) : q.2.2 = true ∧ ∃ f, Own1 c ts v q.1 q.2.1 q.2.2 f := by
  unfold lendWr at h
  split at h
  · rename_i b g
    simp only [Rd.val_bind, Rd.val_blk, Option.bind_some] at h
    split at h
    case h_2 => simp at h
    rename_i g' u ts' e cl hb
    simp only [Rd.val_bind, Rd.if_bind, Bool.and_eq_true, Bool.or_eq_true, beq_iff_eq] at h
    obtain ⟨⟨⟨rfl, h1⟩, h2⟩, h⟩ := h
    simp at h; subst h
    have := Ty.eqL h1
    subst this
    rw [hv.2.2 _ _ _ _ _ _ hb]
    exact ⟨rfl, _, own1_row s hb fun _ => h2⟩
  · rename_i b g u i j ts0
    simp only [Rd.val_bind, Rd.val_blk, Option.bind_some] at h
    split at h
    case h_2 => simp at h
    rename_i g' u' tsr e hb
    simp only [Rd.val_bind, Rd.if_bind, Bool.and_eq_true, beq_iff_eq] at h
    obtain ⟨⟨⟨rfl, rfl⟩, h1⟩, h⟩ := h
    simp at h; subst h
    have := Ty.eqL h1
    subst this
    obtain ⟨a1, a2⟩ := hv.2.2 _ _ _ _ _ hb
    obtain ⟨b1, n, b2, b3⟩ := a2 rfl
    have hbk := s.blks _ _ hb
    obtain ⟨⟨d, hd, hro⟩, hb2, hb3, hb4, hb5⟩ := hbk
    rcases hro with ⟨q1, _⟩ | ⟨o', len, cap, vs, e1, e2, e3, e4, e5, e6, e7, e8⟩
    · obtain ⟨_, _, _, q2, _⟩ := b3
      rw [q1] at q2; simp at q2
    have hjlt : j < tsr.length := by
      rcases Nat.lt_or_ge j tsr.length with h | h
      · exact h
      · simp [List.getElem?_eq_none h] at b1
    have hcell := cell_is (own := true) (cl := true) (live := true) (g := g') (u := u') (ex := e) (d := d) (fp := (c.L b).fp) e1 e2 (by rw [e8.len, e3]) hjlt b3
    have hm : n < d.length := by
      obtain ⟨_, _, _, y1, y2, _⟩ := b3
      rw [e1] at y1
      simp only [Value.slice.injEq] at y1
      omega
    obtain ⟨p, f0, q, v0, d0, dn, hfp, z1, z2, z3, z4, _⟩ := e8.focus hm b1
    rw [hcell] at z1
    simp only [Option.some.injEq] at z1
    subst z1
    have hnf := (List.nodup_append.1 (hb4 rfl rfl)).2.1
    rw [hfp] at hnf
    have hden : c.den (.cell e i j) = d0 := by
      rw [den_cell b2, hd]
      simp [List.getD_eq_getElem?_getD, z2, z3]
    have hin : ∀ k ∈ f0, Hsrc c [b] k := fun k hk => ⟨b, List.mem_singleton.2 rfl, _, hb, by simp [hard, hfp, hk]⟩
    refine ⟨rfl, f0, by rw [hden]; exact z4, ?_, fun k hk => (hin k hk).src s, fun k hk => ?_, fun _ k hk => hin k hk⟩
    · exact ((List.sublist_append_right p f0).trans (List.sublist_append_left _ q)).nodup hnf
    · obtain ⟨g2, hg2⟩ := topOf_rep z4 rfl
      exact hin k (by rw [hg2]; exact List.mem_append_left _ hk)
  · simp at h; subst h
    rw [hv]
    exact ⟨rfl, _, own1_nil⟩
  · simp at h

/-- What is known of all that is handed over. -/
structure LentOk (c : Ctx) (l : Lent) (ro M A : List Nat) : Prop where
  read : ∀ k ∈ ro, Perm c.hp c.L k ∨ Src c l.vs k
  hard : ∀ k ∈ M, Hsrc c l.bs k
  own : ∀ k ∈ A, Src c l.bs k
  nodup : A.Nodup
  all : l.hard = true → ∀ k ∈ A, Hsrc c l.bs k

theorem disj_ne {N M : List Nat} (h : disj N M = true) : ∀ x ∈ N, ∀ y ∈ M, x ≠ y := by
  intro x hx y hy e
  simp only [disj, List.all_eq_true, Bool.not_eq_true', List.contains_eq_mem, decide_eq_false_iff_not] at h
  exact h x hx (e ▸ hy)

theorem LentOk.cons_ro {l : Lent} {ro M A f ns : List Nat} {e : E} (h : LentOk c l ro M A) (hf : ∀ k ∈ f, Perm c.hp c.L k ∨ Src c ns k) : LentOk c ⟨e :: l.es, [] ++ l.bs, ns ++ l.vs, true && l.hard⟩ (f ++ ro) M A where
  read := fun k hk => by
    rcases List.mem_append.1 hk with hk | hk
    · exact (hf k hk).imp id fun h => h.mono fun b hb => List.mem_append_left _ hb
    · exact (h.read k hk).imp id fun h => h.mono fun b hb => List.mem_append_right _ hb
  hard := fun k hk => h.hard k hk
  own := fun k hk => h.own k hk
  nodup := h.nodup
  all := fun hh k hk => h.all (by simpa using hh) k hk

theorem LentOk.cons_own (s : Sim B c sl a) {l : Lent} {ro M A f bs : List Nat} {e : E} {hd : Bool} {ts : List Ty} {v : Value} (h : LentOk c l ro M A) (ho : Own1 c ts v e bs hd f) (hdis : disj bs l.bs = true) {Mf : List Nat} (hM : ∀ k ∈ Mf, Hsrc c bs k) :
    LentOk c ⟨e :: l.es, bs ++ l.bs, [] ++ l.vs, hd && l.hard⟩ ro (Mf ++ M) (f ++ A) where
  read := fun k hk => h.read k hk
  hard := fun k hk => by
    rcases List.mem_append.1 hk with hk | hk
    · exact (hM k hk).mono fun b hb => List.mem_append_left _ hb
    · exact (h.hard k hk).mono fun b hb => List.mem_append_right _ hb
  own := fun k hk => by
    rcases List.mem_append.1 hk with hk | hk
    · exact (ho.src k hk).mono fun b hb => List.mem_append_left _ hb
    · exact (h.own k hk).mono fun b hb => List.mem_append_right _ hb
  nodup := List.nodup_append.2 ⟨ho.nodup, h.nodup, fun x hx y hy e => src_apart s (disj_ne hdis) (ho.src x hx) (e ▸ h.own y hy)⟩
  all := fun hh k hk => by
    simp only [Bool.and_eq_true] at hh
    rcases List.mem_append.1 hk with hk | hk
    · exact (ho.all hh.1 k hk).mono fun b hb => List.mem_append_left _ hb
    · exact (h.all hh.2 k hk).mono fun b hb => List.mem_append_right _ hb

theorem LentOk.nil : LentOk c ⟨[], [], [], true⟩ [] [] [] := ⟨(fun _ h => nomatch h), (fun _ h => nomatch h), (fun _ h => nomatch h), List.nodup_nil, fun _ _ h => nomatch h⟩

theorem cons_val {sl0 : Nat → AV} {e : E} {b v : List Nat} {h : Bool} {l q : Lent} (hq : (l.cons e b v h).val sl0 c.hp = some q) : disj b l.bs = true ∧ q = ⟨e :: l.es, b ++ l.bs, v ++ l.vs, h && l.hard⟩ := by
  simp only [Lent.cons, Rd.val_bind, Rd.if_bind] at hq
  obtain ⟨h1, h2⟩ := hq
  simp at h2
  exact ⟨h1, h2.symm⟩

theorem lendVal_ok (s : Sim B c sl a) {sl0 : Nat → AV} : ∀ {ts : List (Ty × Md)} {xs : List AV} {vs : List Value} {l : Lent}, AVsOk c xs vs → (lendVal ts xs).val sl0 c.hp = some l →
    ∃ ro M A, CellsIn c.w ts vs (c.dens l.es) ro M A ∧ LentOk c l ro M A
  | [], xs, vs, l, hv, h => by
    cases xs with
    | cons => simp [lendVal] at h
    | nil =>
      simp [lendVal] at h; subst h
      cases vs with
      | cons => exact hv.elim
      | nil => exact ⟨[], [], [], .nil, LentOk.nil⟩
  | (t, m) :: ts, xs, vs, l, hv, h => by
    cases xs with
    | nil => cases t <;> cases m <;> simp [lendVal] at h
    | cons x xs =>
      cases vs with
      | nil => exact hv.elim
      | cons v vs =>
        have plain : ∀ {q : Lent}, isSl t = false ∨ m = .ro → ((lendVal ts xs >>= fun l => viewCell t x >>= fun e => x.names >>= fun ns => l.cons e [] ns true).val sl0 c.hp = some q) →
            ∃ ro M A, CellsIn c.w ((t, m) :: ts) (v :: vs) (c.dens q.es) ro M A ∧ LentOk c q ro M A := by
          intro q hm h
          simp only [Rd.val_bind] at h
          replace h := bind_some h; obtain ⟨l1, h1, h⟩ := h
          replace h := bind_some h; obtain ⟨e, h2, h⟩ := h
          replace h := bind_some h; obtain ⟨ns, h3, h⟩ := h
          obtain ⟨h4, rfl⟩ := cons_val h
          obtain ⟨ro, M, A, r1, r2⟩ := lendVal_ok s hv.2 h1
          obtain ⟨f, k1, k2⟩ := view_ok s hv.1 h2 h3
          exact ⟨f ++ ro, M, A, .ro hm k1 r1, r2.cons_ro k2⟩
        cases m with
        | ro =>
          refine plain (.inr rfl) ?_
          cases t <;> exact h
        | wr =>
          cases t with
          | sl t =>
            simp only [lendVal, Rd.val_bind] at h
            replace h := bind_some h; obtain ⟨l1, h1, h⟩ := h
            replace h := bind_some h; obtain ⟨⟨e, b, hd⟩, h2, h⟩ := h
            obtain ⟨h4, rfl⟩ := cons_val h
            obtain ⟨ro, M, A, r1, r2⟩ := lendVal_ok s hv.2 h1
            obtain ⟨k0, f, k1⟩ := lendWr_ok s hv.1 h2
            exact ⟨ro, f ++ M, f ++ A, .wr k1.rep r1, r2.cons_own s k1 h4 (k1.all k0)⟩
          | int k => exact plain (.inl rfl) h
          | bool => exact plain (.inl rfl) h
          | str => exact plain (.inl rfl) h
          | err => exact plain (.inl rfl) h
        | give =>
          cases t with
          | sl t =>
            simp only [lendVal, Rd.val_bind] at h
            replace h := bind_some h; obtain ⟨l1, h1, h⟩ := h
            replace h := bind_some h; obtain ⟨⟨e, b, hd⟩, h2, h⟩ := h
            obtain ⟨h4, rfl⟩ := cons_val h
            obtain ⟨ro, M, A, r1, r2⟩ := lendVal_ok s hv.2 h1
            obtain ⟨k0, ⟨f, k1⟩, k2⟩ := lendGive_ok s hv.1 h2
            exact ⟨ro, f ++ M, f ++ A, .give k2 k1.rep r1, r2.cons_own s k1 h4 (k1.all k0)⟩
          | int k => exact plain (.inl rfl) h
          | bool => exact plain (.inl rfl) h
          | str => exact plain (.inl rfl) h
          | err => exact plain (.inl rfl) h

theorem lendBox_ok (s : Sim B c sl a) {sl0 : Nat → AV} : ∀ {ts : List (Ty × Rm)} {xs : List AV} {vs : List Value} {l : Lent}, AVsOk c xs vs → (lendBox ts xs).val sl0 c.hp = some l →
    ∃ ro M A, BoxIn c.w ts vs (c.dens l.es) ro M A ∧ LentOk c l ro M A
  | [], xs, vs, l, hv, h => by
    cases xs with
    | cons => simp [lendBox] at h
    | nil =>
      simp [lendBox] at h; subst h
      cases vs with
      | cons => exact hv.elim
      | nil => exact ⟨[], [], [], .nil, LentOk.nil⟩
  | (t, m) :: ts, xs, vs, l, hv, h => by
    cases xs with
    | nil => cases t <;> cases m <;> simp [lendBox] at h
    | cons x xs =>
      cases vs with
      | nil => exact hv.elim
      | cons v vs =>
        have plain : ∀ {q : Lent}, isSl t = false ∨ m ≠ .own → ((lendBox ts xs >>= fun l => viewCell t x >>= fun e => x.names >>= fun ns => l.cons e [] ns true).val sl0 c.hp = some q) →
            ∃ ro M A, BoxIn c.w ((t, m) :: ts) (v :: vs) (c.dens q.es) ro M A ∧ LentOk c q ro M A := by
          intro q hm h
          simp only [Rd.val_bind] at h
          replace h := bind_some h; obtain ⟨l1, h1, h⟩ := h
          replace h := bind_some h; obtain ⟨e, h2, h⟩ := h
          replace h := bind_some h; obtain ⟨ns, h3, h⟩ := h
          obtain ⟨h4, rfl⟩ := cons_val h
          obtain ⟨ro, M, A, r1, r2⟩ := lendBox_ok s hv.2 h1
          obtain ⟨f, k1, k2⟩ := view_ok s hv.1 h2 h3
          exact ⟨f ++ ro, M, A, .ro hm k1 r1, r2.cons_ro k2⟩
        cases m with
        | ro =>
          refine plain (.inr (by simp)) ?_
          cases t <;> exact h
        | top =>
          refine plain (.inr (by simp)) ?_
          cases t <;> exact h
        | kept =>
          refine plain (.inr (by simp)) ?_
          cases t <;> exact h
        | own =>
          cases t with
          | sl t =>
            simp only [lendBox, Rd.val_bind] at h
            replace h := bind_some h; obtain ⟨l1, h1, h⟩ := h
            replace h := bind_some h; obtain ⟨⟨e, b, hd⟩, h2, h⟩ := h
            obtain ⟨h4, rfl⟩ := cons_val h
            obtain ⟨ro, M, A, r1, r2⟩ := lendBox_ok s hv.2 h1
            obtain ⟨f, k1⟩ := lendOwn_ok s hv.1 h2
            exact ⟨ro, topOf v ++ M, f ++ A, .own k1.rep r1, r2.cons_own s k1 h4 k1.top⟩
          | int k => exact plain (.inl rfl) h
          | bool => exact plain (.inl rfl) h
          | str => exact plain (.inl rfl) h
          | err => exact plain (.inl rfl) h

theorem LentOk.append (s : Sim B c sl a) {l k : Lent} {r r' M M' A A' : List Nat} (h1 : LentOk c l r M A) (h2 : LentOk c k r' M' A') (hd : disj l.bs k.bs = true) :
    LentOk c ⟨l.es ++ k.es, l.bs ++ k.bs, l.vs ++ k.vs, l.hard && k.hard⟩ (r ++ r') (M ++ M') (A ++ A') where
  read := fun q hq => by
    rcases List.mem_append.1 hq with hq | hq
    · exact (h1.read q hq).imp id fun h => h.mono fun b hb => List.mem_append_left _ hb
    · exact (h2.read q hq).imp id fun h => h.mono fun b hb => List.mem_append_right _ hb
  hard := fun q hq => by
    rcases List.mem_append.1 hq with hq | hq
    · exact (h1.hard q hq).mono fun b hb => List.mem_append_left _ hb
    · exact (h2.hard q hq).mono fun b hb => List.mem_append_right _ hb
  own := fun q hq => by
    rcases List.mem_append.1 hq with hq | hq
    · exact (h1.own q hq).mono fun b hb => List.mem_append_left _ hb
    · exact (h2.own q hq).mono fun b hb => List.mem_append_right _ hb
  nodup := List.nodup_append.2 ⟨h1.nodup, h2.nodup, fun x hx y hy e => src_apart s (disj_ne hd) (h1.own x hx) (e ▸ h2.own y hy)⟩
  all := fun hh q hq => by
    simp only [Bool.and_eq_true] at hh
    rcases List.mem_append.1 hq with hq | hq
    · exact (h1.all hh.1 q hq).mono fun b hb => List.mem_append_left _ hb
    · exact (h2.all hh.2 q hq).mono fun b hb => List.mem_append_right _ hb

/-- A box, with what is behind it. -/
theorem LentOk.box (s : Sim B c sl a) {l : Lent} {r M A : List Nat} {b g : Nat} {cells : List AV} (h : LentOk c l r M A) (hb : c.hp b = some (.box g cells)) (hn : l.bs.contains b = false) :
    LentOk c ⟨l.es, b :: l.bs, l.vs, l.hard⟩ r ((c.L b).blk :: M) ((c.L b).blk :: A) where
  read := h.read
  hard := fun q hq => by
    rcases List.mem_cons.1 hq with rfl | hq
    · exact ⟨b, List.mem_cons_self .., _, hb, List.mem_singleton.2 rfl⟩
    · exact (h.hard q hq).mono fun x hx => List.mem_cons_of_mem _ hx
  own := fun q hq => by
    rcases List.mem_cons.1 hq with rfl | hq
    · exact ⟨b, List.mem_cons_self .., _, hb, List.mem_singleton.2 rfl⟩
    · exact (h.own q hq).mono fun x hx => List.mem_cons_of_mem _ hx
  nodup := by
    refine List.nodup_cons.2 ⟨fun hm => ?_, h.nodup⟩
    obtain ⟨b', hb', x', h1, h2⟩ := h.own _ hm
    refine s.disj b b' _ _ (fun e => ?_) hb h1 (c.L b).blk (List.mem_singleton.2 rfl) h2
    subst e
    simp only [List.contains_eq_mem, decide_eq_false_iff_not] at hn
    exact hn hb'
  all := fun hh q hq => by
    rcases List.mem_cons.1 hq with rfl | hq
    · exact ⟨b, List.mem_cons_self .., _, hb, List.mem_singleton.2 rfl⟩
    · exact (h.all hh q hq).mono fun x hx => List.mem_cons_of_mem _ hx

theorem argCells_ok {agg : Bool} {x : AV} {v : Value} {cs : List AV} (h : argCells agg x = some cs) (hv : AVOk c x v) : ∃ vs, argVal agg vs v ∧ AVsOk c cs vs := by
  unfold argCells at h
  split at h
  · split at h <;> simp at h
    rename_i l ha
    subst h; subst ha
    obtain ⟨vs, e1, e2⟩ := hv
    exact ⟨vs, by simp [argVal, e1], e2⟩
  · split at h <;> simp at h
    rename_i ha
    subst h
    exact ⟨[v], by simp [argVal, ha], hv, trivial⟩

theorem lend_ok (s : Sim B c sl a) {sl0 : Nat → AV} : ∀ {ps : List PK} {xs : List AV} {vs : List Value} {l : Lent}, AVsOk c xs vs → (lend ps xs).val sl0 c.hp = some l →
    ∃ ro M A, ArgsIn c.w ps vs (c.dens l.es) ro M A ∧ LentOk c l ro M A
  | [], xs, vs, l, hv, h => by
    cases xs with
    | cons => simp [lend] at h
    | nil =>
      simp [lend] at h; subst h
      cases vs with
      | cons => exact hv.elim
      | nil => exact ⟨[], [], [], .nil, LentOk.nil⟩
  | .val ts agg :: ps, xs, vs, l, hv, h => by
    cases xs with
    | nil => simp [lend] at h
    | cons x xs =>
      cases vs with
      | nil => exact hv.elim
      | cons v vs =>
        simp only [lend, Rd.val_bind] at h
        replace h := bind_some h; obtain ⟨l1, h1, h⟩ := h
        simp only [Rd.val_opt] at h
        replace h := bind_some h; obtain ⟨cs, h2, h⟩ := h
        replace h := bind_some h; obtain ⟨k, h3, h⟩ := h
        simp only [Rd.if_bind] at h
        obtain ⟨h4, h⟩ := h
        simp at h; subst h
        obtain ⟨r', M', A', r1, r2⟩ := lend_ok s hv.2 h1
        obtain ⟨us, u1, u2⟩ := argCells_ok h2 hv.1
        obtain ⟨r, M, A, k1, k2⟩ := lendVal_ok s u2 h3
        exact ⟨_, _, _, by rw [dens_append]; exact .val u1 k1 r1, k2.append s r2 h4⟩
  | .box ts :: ps, xs, vs, l, hv, h => by
    cases xs with
    | nil => simp [lend] at h
    | cons x xs =>
      cases vs with
      | nil => exact hv.elim
      | cons v vs =>
        cases x <;> try (simp [lend] at h; done)
        rename_i b g off
        cases off with
        | succ n => simp [lend] at h
        | zero =>
          simp only [lend, Rd.val_bind] at h
          replace h := bind_some h; obtain ⟨l1, h1, h⟩ := h
          simp only [Rd.val_blk, Option.bind_some] at h
          split at h
          case h_2 => simp at h
          rename_i g' cells hb
          simp only [Rd.val_bind, Rd.if_bind, beq_iff_eq] at h
          obtain ⟨rfl, h⟩ := h
          replace h := bind_some h; obtain ⟨k, h3, h⟩ := h
          simp only [Rd.if_bind, Bool.and_eq_true, Bool.not_eq_true'] at h
          obtain ⟨⟨h4, h5⟩, h⟩ := h
          simp at h; subst h
          obtain ⟨r', M', A', r1, r2⟩ := lend_ok s hv.2 h1
          obtain ⟨us, T, u1, u2⟩ := s.blks _ _ hb
          obtain ⟨r, M, A, k1, k2⟩ := lendBox_ok s u2 h3
          have hp := hv.1.2.2 _ hb
          rw [hp]
          refine ⟨r ++ r', (c.L b).blk :: (M ++ M'), (c.L b).blk :: (A ++ A'), by rw [dens_append]; exact .box u1 k1 r1, ?_⟩
          exact (k2.box s hb h4).append s r2 h5

end
end Go.Sx
