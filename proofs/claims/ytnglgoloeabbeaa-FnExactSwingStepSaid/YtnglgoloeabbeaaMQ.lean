/-
  The machine, part Q: what a call gives back of what was handed to it.
-/
import Derived.Test.YtnglgoloeabbeaaMP
namespace Go.Sx
open Go Go.RowKit
set_option linter.unusedSimpArgs false
set_option linter.unusedVariables false

section
variable {c : Ctx} {sl : Nat → AV} {a : Act} {B : Base}

/-- What comes back of the cells of a value. -/
def BackV (c : Ctx) (ts : List (Ty × Md)) (xs : List AV) (vs : List Value) (bs A : List Nat) : Prop :=
  ∀ (w' : World) (M' A' Nout H O O2 H2 : List Nat) (keep : Bool) (f : Nat) (es : List E) (r : Nat) (ds : List D) (sl0 : Nat → AV) (q : List (Nat × Blk) × Nat),
    CellsBack w' ts vs ds H2 O2 → Around c w' M' A' O → (∀ k ∈ A', k ∈ A ∨ Src c Nout k) → (∀ b ∈ bs, b ∉ Nout) → (∀ k ∈ H2, k ∈ H) → (∀ k ∈ O2, k ∈ O) →
    (backVal f es keep r ts xs).val sl0 c.hp = some q → (∀ i, i < ds.length → (c.Γ f (c.dens es)).getD (r + i) default = ds.getD i default) →
    q.2 = r + ds.length ∧ ∃ zs : List Ent, zs.map (fun z => (z.b, z.x)) = q.1 ∧ (zs.map Ent.o).flatten.Sublist O2 ∧ (∀ z ∈ zs, EntOk c w' H keep A' z) ∧ (∀ z ∈ zs, z.k ≠ [] → z.b ∈ bs) ∧
      (∀ b ∈ bs, ∃ z ∈ zs, z.b = b) ∧ ∀ c', Placed c c' w' zs → O2.Nodup → ∀ z ∈ zs, BlkOk c' z.x z.l

theorem backVal_other {f r : Nat} {es : List E} {keep : Bool} {t : Ty} {m : Md} {ts : List (Ty × Md)} {x : AV} {xs : List AV} (h : isSl t = false ∨ m = .ro) : backVal f es keep r ((t, m) :: ts) (x :: xs) = backVal f es keep r ts xs := by
  cases t <;> cases m <;> simp_all [backVal, isSl]

theorem backVal_wr {f r : Nat} {es : List E} {keep : Bool} {t : List Ty} {ts : List (Ty × Md)} {x : AV} {xs : List AV} {sl0 : Nat → AV} {hp : Nat → Option Blk} {q : List (Nat × Blk) × Nat}
    (h : (backVal f es keep r ((.sl t, .wr) :: ts) (x :: xs)).val sl0 hp = some q) :
    ∃ q0 q1, (wrBackRd t keep (.app (.call f r) es) x).val (fun _ => .undef) hp = some q0 ∧ (backVal f es keep (r + 1) ts xs).val sl0 hp = some q1 ∧ q = (q0.toList ++ q1.1, q1.2) := by
  simp only [backVal, Rd.val_bind] at h
  replace h := bind_some h; obtain ⟨⟨us, n⟩, h1, h⟩ := h
  cases x <;> try (simp at h; done)
  case nil =>
    simp at h; subst h
    exact ⟨none, _, rfl, h1, rfl⟩
  case row b g =>
    simp only [Rd.val_bind, Rd.val_blk, Option.bind_some] at h
    split at h
    case h_2 => simp at h
    rename_i hb
    simp at h; subst h
    exact ⟨_, _, by simp only [wrBackRd, Rd.val_bind, Rd.val_blk, Option.bind_some, hb]; rfl, h1, rfl⟩
  case under b g u i j ts0 =>
    simp only [Rd.val_bind, Rd.val_blk, Option.bind_some] at h
    split at h
    case h_2 => simp at h
    rename_i hb
    simp at h; subst h
    exact ⟨_, _, by simp only [wrBackRd, Rd.val_bind, Rd.val_blk, Option.bind_some, hb]; rfl, h1, rfl⟩

theorem goneEnt {w' : World} {H A : List Nat} {keep : Bool} {b g : Nat} {l : Loc} (hg : gen (c.hp b) ≤ g + 1) : EntOk c w' H keep A ⟨b, .gone g, l, [], []⟩ where
  accs := fun _ h => nomatch h
  kept := fun _ h => nomatch h
  hard := fun _ h => nomatch h
  gens := hg
  row := fun _ _ _ _ _ _ _ _ h => by simp at h
  box := fun _ _ _ h => by simp at h

theorem lendVal_back (s : Sim B c sl a) {sl0 : Nat → AV} : ∀ {ts : List (Ty × Md)} {xs : List AV} {vs : List Value} {l : Lent}, AVsOk c xs vs → (lendVal ts xs).val sl0 c.hp = some l →
    ∃ ro M A, CellsIn c.w ts vs (c.dens l.es) ro M A ∧ LentOk c l ro M A ∧ BackV c ts xs vs l.bs A
  | [], xs, vs, l, hv, h => by
    cases xs with
    | cons => simp [lendVal] at h
    | nil =>
      simp [lendVal] at h; subst h
      cases vs with
      | cons => exact hv.elim
      | nil =>
        refine ⟨[], [], [], .nil, LentOk.nil, ?_⟩
        intro w' M' A' Nout H O O2 H2 keep f es r ds sl1 q hc har hA hN hH hO hq hΓ
        cases hc
        simp [backVal] at hq; subst hq
        exact ⟨rfl, [], rfl, by simp, (fun _ h => nomatch h), (fun _ h => nomatch h), (fun _ h => nomatch h), fun c' _ _ z hz => nomatch hz⟩
  | (t, m) :: ts, xs, vs, l, hv, h => by
    cases xs with
    | nil => cases t <;> cases m <;> simp [lendVal] at h
    | cons x xs =>
      cases vs with
      | nil => exact hv.elim
      | cons v vs =>
        have plain : ∀ {q : Lent}, isSl t = false ∨ m = .ro → ((lendVal ts xs >>= fun l => viewCell t x >>= fun e => x.names >>= fun ns => l.cons e [] ns true).val sl0 c.hp = some q) →
            ∃ ro M A, CellsIn c.w ((t, m) :: ts) (v :: vs) (c.dens q.es) ro M A ∧ LentOk c q ro M A ∧ BackV c ((t, m) :: ts) (x :: xs) (v :: vs) q.bs A := by
          intro q hm h
          simp only [Rd.val_bind] at h
          replace h := bind_some h; obtain ⟨l1, h1, h⟩ := h
          replace h := bind_some h; obtain ⟨e, h2, h⟩ := h
          replace h := bind_some h; obtain ⟨ns, h3, h⟩ := h
          obtain ⟨h4, rfl⟩ := cons_val h
          obtain ⟨ro, M, A, r1, r2, r3⟩ := lendVal_back s hv.2 h1
          obtain ⟨f, k1, k2⟩ := view_ok s hv.1 h2 h3
          refine ⟨f ++ ro, M, A, .ro hm k1 r1, r2.cons_ro k2, ?_⟩
          intro w' M' A' Nout H O O2 H2 keep f es r ds sl1 q hc har hA hN hH hO hq hΓ
          rw [backVal_other hm] at hq
          cases hc with
          | other _ hc => exact r3 w' M' A' Nout H O O2 H2 keep f es r ds sl1 q hc har hA (by simpa using hN) hH hO hq hΓ
          | wr _ _ => simp [isSl] at hm
        cases m with
        | ro =>
          refine plain (.inr rfl) ?_
          cases t <;> exact h
        | wr =>
          cases t with
          | sl t =>
            simp only [lendVal, Rd.val_bind] at h
            replace h := bind_some h; obtain ⟨l1, h1, h⟩ := h
            replace h := bind_some h; obtain ⟨⟨e, b, hd⟩, h2, h⟩ := h
            obtain ⟨h4, rfl⟩ := cons_val h
            obtain ⟨ro, M, A, r1, r2, r3⟩ := lendVal_back s hv.2 h1
            obtain ⟨k0, f0, k1, k2⟩ := lendWr_back s hv.1 h2
            refine ⟨ro, f0 ++ M, f0 ++ A, .wr k1.rep r1, r2.cons_own s k1 h4 (k1.all k0), ?_⟩
            have hbl := disj_ne h4
            intro w' M' A' Nout H O O2 H2 keep f es r ds sl1 q hc har hA hN hH hO hq hΓ
            obtain ⟨q0, q1, g1, g2, rfl⟩ := backVal_wr hq
            cases hc with
            | other h _ => simp [isSl] at h
            | wr hr hc =>
              rename_i d ds f1 H3 O3
              obtain ⟨zs, z1, z2, z3, z4, z5, z6⟩ := k2 w' M' A' (l1.bs ++ Nout) H O keep (.app (.call f r) es) d f1 q0 har (fun k hk => by
                  rcases hA k hk with h | h
                  · rcases List.mem_append.1 h with h | h
                    · exact .inl h
                    · exact .inr ((r2.own k h).mono fun b hb => List.mem_append_left _ hb)
                  · exact .inr (h.mono fun b hb => List.mem_append_right _ hb))
                (fun b' hb' hm => by
                  rcases List.mem_append.1 hm with hm | hm
                  · exact hbl b' hb' b' hm rfl
                  · exact hN b' (List.mem_append_left _ hb') hm)
                hr (by rw [den_call]; simpa using hΓ 0 (by simp)) (fun k hk => hH k (List.mem_append_left _ hk)) (fun k hk => hO k (List.mem_append_left _ hk)) g1
              obtain ⟨n1, ys, y1, y2, y3, y4, y5, y6⟩ := r3 w' M' A' (b ++ Nout) H O O3 H3 keep f es (r + 1) ds sl1 q1 hc har (fun k hk => by
                  rcases hA k hk with h | h
                  · rcases List.mem_append.1 h with h | h
                    · exact .inr ((k1.src k h).mono fun b hb => List.mem_append_left _ hb)
                    · exact .inl h
                  · exact .inr (h.mono fun b hb => List.mem_append_right _ hb))
                (fun b' hb' hm => by
                  rcases List.mem_append.1 hm with hm | hm
                  · exact hbl b' hm b' hb' rfl
                  · exact hN b' (List.mem_append_right _ hb') hm)
                (fun k hk => hH k (List.mem_append_right _ hk)) (fun k hk => hO k (List.mem_append_right _ hk)) g2 (fun i hi => by
                  have := hΓ (i + 1) (by simpa using hi)
                  rw [show r + 1 + i = r + (i + 1) from by omega, this]
                  simp)
              refine ⟨by simp only [n1, List.length_cons]; omega, zs ++ ys, by simp [z1, y1], ?_, fun z hz => ?_, fun z hz hk => ?_, fun b' hb' => ?_, fun c' hp hn z hz => ?_⟩
              · rw [List.map_append, List.flatten_append]
                exact List.Sublist.append z2 y2
              · rcases List.mem_append.1 hz with hz | hz
                · exact z3 z hz
                · exact y3 z hz
              · rcases List.mem_append.1 hz with hz | hz
                · exact List.mem_append_left _ (z4 z hz)
                · exact List.mem_append_right _ (y4 z hz hk)
              · rcases List.mem_append.1 hb' with hb' | hb'
                · obtain ⟨z, hz, e⟩ := z5 b' hb'
                  exact ⟨z, List.mem_append_left _ hz, e⟩
                · obtain ⟨z, hz, e⟩ := y5 b' hb'
                  exact ⟨z, List.mem_append_right _ hz, e⟩
              · obtain ⟨n1, n2, _⟩ := List.nodup_append.1 hn
                rcases List.mem_append.1 hz with hz | hz
                · exact z6 c' (hp.sub fun z hz => List.mem_append_left _ hz) n1 z hz
                · exact y6 c' (hp.sub fun z hz => List.mem_append_right _ hz) n2 z hz
          | int k => exact plain (.inl rfl) h
          | bool => exact plain (.inl rfl) h
          | str => exact plain (.inl rfl) h
          | err => exact plain (.inl rfl) h
        | give =>
          cases t with
          | sl t =>
            simp only [lendVal, Rd.val_bind] at h
            replace h := bind_some h; obtain ⟨l1, h1, h⟩ := h
            replace h := bind_some h; obtain ⟨⟨e, b, hd⟩, h2, h⟩ := h
            obtain ⟨h4, rfl⟩ := cons_val h
            obtain ⟨ro, M, A, r1, r2, r3⟩ := lendVal_back s hv.2 h1
            obtain ⟨k0, ⟨f0, k1⟩, k2⟩ := lendGive_ok s hv.1 h2
            refine ⟨ro, f0 ++ M, f0 ++ A, .give k2 k1.rep r1, r2.cons_own s k1 h4 (k1.all k0), ?_⟩
            have hbl := disj_ne h4
            intro w' M' A' Nout H O O2 H2 keep f es r ds sl1 q hc har hA hN hH hO hq hΓ
            simp only [backVal, Rd.val_bind] at hq
            replace hq := bind_some hq; obtain ⟨q1, g2, hq⟩ := hq
            cases hc with
            | other _ hc =>
              obtain ⟨n1, ys, y1, y2, y3, y4, y5, y6⟩ := r3 w' M' A' (b ++ Nout) H O O2 H2 keep f es r ds sl1 q1 hc har (fun k hk => by
                  rcases hA k hk with h | h
                  · rcases List.mem_append.1 h with h | h
                    · exact .inr ((k1.src k h).mono fun b hb => List.mem_append_left _ hb)
                    · exact .inl h
                  · exact .inr (h.mono fun b hb => List.mem_append_right _ hb))
                (fun b' hb' hm => by
                  rcases List.mem_append.1 hm with hm | hm
                  · exact hbl b' hm b' hb' rfl
                  · exact hN b' (List.mem_append_right _ hb') hm)
                hH hO g2 hΓ
              unfold lendGive at h2
              split at h2
              · rename_i b0 g0
                simp only [Rd.val_bind, Rd.val_blk, Option.bind_some] at h2
                split at h2
                case h_2 => simp at h2
                rename_i g' u ts' e' cl hb
                simp only [Rd.val_bind, Rd.if_bind, Bool.and_eq_true, beq_iff_eq] at h2
                obtain ⟨⟨⟨rfl, _⟩, _⟩, h2⟩ := h2
                simp at h2
                obtain ⟨_, rfl, _⟩ := h2
                simp at hq; subst hq
                refine ⟨n1, ⟨b0, .gone g', c.L b0, [], []⟩ :: ys, by simp [y1], by simpa using y2, fun z hz => ?_, fun z hz hk => ?_, fun b' hb' => ?_, fun c' hp hn z hz => ?_⟩
                · rcases List.mem_cons.1 hz with rfl | hz
                  · exact goneEnt (by rw [hb]; exact Nat.le_refl _)
                  · exact y3 z hz
                · rcases List.mem_cons.1 hz with rfl | hz
                  · exact absurd rfl hk
                  · exact List.mem_append_right _ (y4 z hz hk)
                · rcases List.mem_append.1 hb' with hb' | hb'
                  · exact ⟨_, List.mem_cons_self .., (List.mem_singleton.1 hb').symm⟩
                  · obtain ⟨z, hz, e⟩ := y5 b' hb'
                    exact ⟨z, List.mem_cons_of_mem _ hz, e⟩
                · rcases List.mem_cons.1 hz with rfl | hz
                  · trivial
                  · exact y6 c' (hp.sub fun z hz => List.mem_cons_of_mem _ hz) hn z hz
              · simp at h2
                obtain ⟨_, rfl, _⟩ := h2
                simp at hq; subst hq
                exact ⟨n1, ys, y1, y2, y3, (fun z hz hk => by simpa using y4 z hz hk), (fun b' hb' => y5 b' (by simpa using hb')), y6⟩
              · simp at h2
          | int k => exact plain (.inl rfl) h
          | bool => exact plain (.inl rfl) h
          | str => exact plain (.inl rfl) h
          | err => exact plain (.inl rfl) h

theorem box_cells {w w' : World} {b j : Nat} {us cs : List Value} {T T' : TypeId} (h : w.heap[b]? = some (.cells us.toArray T (0, 0))) (h' : w'.heap[b]? = some (.cells cs.toArray T' (0, 0)))
    (hc : w'.cell? ⟨b, j, none⟩ = w.cell? ⟨b, j, none⟩) : cs[j]? = us[j]? := by
  rw [cell_of_row _ _ _ _ _ _ h, cell_of_row _ _ _ _ _ _ h'] at hc
  simpa using hc

/-- What comes back of all that was handed over. -/
def BackP (c : Ctx) (ps : List PK) (xs : List AV) (vs : List Value) (bs A : List Nat) : Prop :=
  ∀ (w' : World) (M' A' Nout H O O2 H2 R2 : List Nat) (keep : Bool) (f : Nat) (es : List E) (dst r : Nat) (ds : List D) (sl0 : Nat → AV) (q : List (Nat × Blk)),
    KeptAll c.w w' ps vs → BackOut w' ps vs ds H2 O2 R2 → Around c w' M' A' O → (∀ k ∈ A', k ∈ A ∨ Src c Nout k) → (∀ b ∈ bs, b ∉ Nout) → (∀ k ∈ H2, k ∈ H) → (∀ k ∈ O2, k ∈ O) →
    (back f es dst keep r ps xs).val sl0 c.hp = some q → (∀ i, i < ds.length → (c.Γ f (c.dens es)).getD (r + i) default = ds.getD i default) →
    ∃ zs : List Ent, zs.map (fun z => (z.b, z.x)) = q ∧ (zs.map Ent.o).flatten.Sublist O2 ∧ (∀ z ∈ zs, EntOk c w' H keep A' z) ∧ (∀ z ∈ zs, z.k ≠ [] → z.b ∈ bs) ∧
      (∀ b ∈ bs, ∃ z ∈ zs, z.b = b) ∧ GoodAt c w' true zs O2 R2 fun _ => True

theorem argVal_eq {agg : Bool} {cs us : List Value} {v : Value} (h : argVal agg cs v) (h' : argVal agg us v) : cs = us := by
  unfold argVal at h h'
  cases agg with
  | true =>
    simp only [if_true] at h h'
    rw [h] at h'
    simp only [Value.agg.injEq] at h'
    simpa using congrArg Array.toList h'
  | false =>
    simp at h h'
    rw [h, h']

theorem lend_back (s : Sim B c sl a) {sl0 : Nat → AV} : ∀ {ps : List PK} {xs : List AV} {vs : List Value} {l : Lent}, AVsOk c xs vs → (∀ ts, PK.box ts ∈ ps → ∀ x ∈ ts, x.2 ≠ .top) → (lend ps xs).val sl0 c.hp = some l →
    ∃ ro M A, ArgsIn c.w ps vs (c.dens l.es) ro M A ∧ LentOk c l ro M A ∧ BackP c ps xs vs l.bs A
  | [], xs, vs, l, hv, ht, h => by
    cases xs with
    | cons => simp [lend] at h
    | nil =>
      simp [lend] at h; subst h
      cases vs with
      | cons => exact hv.elim
      | nil =>
        refine ⟨[], [], [], .nil, LentOk.nil, ?_⟩
        intro w' M' A' Nout H O O2 H2 R2 keep f es dst r ds sl1 q hka hc har hA hN hH hO hq hΓ
        cases hc
        simp [back] at hq; subst hq
        exact ⟨[], rfl, by simp, (fun _ h => nomatch h), (fun _ h => nomatch h), (fun _ h => nomatch h), fun c' _ _ _ _ => ⟨trivial, fun z hz => nomatch hz⟩⟩
  | .val ts agg :: ps, xs, vs, l, hv, ht, h => by
    cases xs with
    | nil => simp [lend] at h
    | cons x xs =>
      cases vs with
      | nil => exact hv.elim
      | cons v vs =>
        simp only [lend, Rd.val_bind] at h
        replace h := bind_some h; obtain ⟨l1, h1, h⟩ := h
        simp only [Rd.val_opt] at h
        replace h := bind_some h; obtain ⟨cs, h2, h⟩ := h
        replace h := bind_some h; obtain ⟨k, h3, h⟩ := h
        simp only [Rd.if_bind] at h
        obtain ⟨h4, h⟩ := h
        simp at h; subst h
        obtain ⟨r', M', A', r1, r2, r3⟩ := lend_back s hv.2 (fun ts hts => ht ts (List.mem_cons_of_mem _ hts)) h1
        obtain ⟨us, u1, u2⟩ := argCells_ok h2 hv.1
        obtain ⟨r, M, A, k1, k2, k3⟩ := lendVal_back s u2 h3
        refine ⟨_, _, _, by rw [dens_append]; exact .val u1 k1 r1, k2.append s r2 h4, ?_⟩
        have hbl := disj_ne h4
        intro w' M1 A1 Nout H O O2 H2 R2 keep f es dst r ds sl1 q hka hc har hA hN hH hO hq hΓ
        replace hka : KeptAll c.w w' ps vs := by cases hka with | val h => exact h
        simp only [back, Rd.val_bind, Rd.val_opt, h2, Option.bind_some] at hq
        replace hq := bind_some hq; obtain ⟨q0, g1, hq⟩ := hq
        replace hq := bind_some hq; obtain ⟨q1, g2, hq⟩ := hq
        simp at hq; subst hq
        cases hc with
        | val hav hcb hrest =>
          rename_i cs' ds1 ds2 H3 H4 O3 O4
          obtain rfl := argVal_eq hav u1
          obtain ⟨n1, zs, z1, z2, z3, z4, z5, z6⟩ := k3 w' M1 A1 (l1.bs ++ Nout) H O O3 H3 keep f es r ds1 sl1 q0 hcb har (fun k hk => by
              rcases hA k hk with h | h
              · rcases List.mem_append.1 h with h | h
                · exact .inl h
                · exact .inr ((r2.own k h).mono fun b hb => List.mem_append_left _ hb)
              · exact .inr (h.mono fun b hb => List.mem_append_right _ hb))
            (fun b' hb' hm => by
              rcases List.mem_append.1 hm with hm | hm
              · exact hbl b' hb' b' hm rfl
              · exact hN b' (List.mem_append_left _ hb') hm)
            (fun k hk => hH k (List.mem_append_left _ hk)) (fun k hk => hO k (List.mem_append_left _ hk)) g1 (fun i hi => by
              rw [hΓ i (by rw [List.length_append]; omega), List.getD_eq_getElem?_getD, List.getElem?_append_left hi, ← List.getD_eq_getElem?_getD])
          rw [n1] at g2
          obtain ⟨ys, y1, y2, y3, y4, y5, y6⟩ := r3 w' M1 A1 (k.bs ++ Nout) H O O4 H4 R2 keep f es dst (r + ds1.length) ds2 sl1 q1 hka hrest har (fun q hq => by
              rcases hA q hq with h | h
              · rcases List.mem_append.1 h with h | h
                · exact .inr ((k2.own q h).mono fun b hb => List.mem_append_left _ hb)
                · exact .inl h
              · exact .inr (h.mono fun b hb => List.mem_append_right _ hb))
            (fun b' hb' hm => by
              rcases List.mem_append.1 hm with hm | hm
              · exact hbl b' hm b' hb' rfl
              · exact hN b' (List.mem_append_right _ hb') hm)
            (fun k hk => hH k (List.mem_append_right _ hk)) (fun k hk => hO k (List.mem_append_right _ hk)) g2 (fun i hi => by
              have := hΓ (ds1.length + i) (by rw [List.length_append]; omega)
              rw [← Nat.add_assoc] at this
              rw [this, List.getD_eq_getElem?_getD, List.getElem?_append_right (by omega), Nat.add_sub_cancel_left, ← List.getD_eq_getElem?_getD])
          refine ⟨zs ++ ys, by simp [z1, y1], ?_, fun z hz => ?_, fun z hz hk => ?_, fun b' hb' => ?_, fun c' hp hn hR hO => ⟨trivial, fun z hz => ?_⟩⟩
          · rw [List.map_append, List.flatten_append]
            exact List.Sublist.append z2 y2
          · rcases List.mem_append.1 hz with hz | hz
            · exact z3 z hz
            · exact y3 z hz
          · rcases List.mem_append.1 hz with hz | hz
            · exact List.mem_append_left _ (z4 z hz hk)
            · exact List.mem_append_right _ (y4 z hz hk)
          · rcases List.mem_append.1 hb' with hb' | hb'
            · obtain ⟨z, hz, e⟩ := z5 b' hb'
              exact ⟨z, List.mem_append_left _ hz, e⟩
            · obtain ⟨z, hz, e⟩ := y5 b' hb'
              exact ⟨z, List.mem_append_right _ hz, e⟩
          · obtain ⟨n1, n2, _⟩ := List.nodup_append.1 hn
            rcases List.mem_append.1 hz with hz | hz
            · exact z6 c' (hp.sub fun z hz => List.mem_append_left _ hz) n1 z hz
            · exact (y6 c' (hp.sub fun z hz => List.mem_append_right _ hz) n2 hR (fun h => nomatch h)).2 z hz
  | .box ts :: ps, xs, vs, l, hv, ht, h => by
    cases xs with
    | nil => simp [lend] at h
    | cons x xs =>
      cases vs with
      | nil => exact hv.elim
      | cons v vs =>
        cases x <;> try (simp [lend] at h; done)
        rename_i b g off
        cases off with
        | succ n => simp [lend] at h
        | zero =>
          simp only [lend, Rd.val_bind] at h
          replace h := bind_some h; obtain ⟨l1, h1, h⟩ := h
          simp only [Rd.val_blk, Option.bind_some] at h
          split at h
          case h_2 => simp at h
          rename_i g' cells hb
          simp only [Rd.val_bind, Rd.if_bind, beq_iff_eq] at h
          obtain ⟨rfl, h⟩ := h
          replace h := bind_some h; obtain ⟨k, h3, h⟩ := h
          simp only [Rd.if_bind, Bool.and_eq_true, Bool.not_eq_true'] at h
          obtain ⟨⟨h4, h5⟩, h⟩ := h
          simp at h; subst h
          obtain ⟨r', M', A', r1, r2, r3⟩ := lend_back s hv.2 (fun ts hts => ht ts (List.mem_cons_of_mem _ hts)) h1
          obtain ⟨us, T, u1, u2⟩ := s.blks _ _ hb
          obtain ⟨r, M, A, k1, k2⟩ := lendBox_ok s u2 h3
          have hp := hv.1.2.2 _ hb
          subst hp
          have kb := k2.box s hb h4
          refine ⟨r ++ r', (c.L b).blk :: (M ++ M'), (c.L b).blk :: (A ++ A'), by rw [dens_append]; exact .box u1 k1 r1, kb.append s r2 h5, ?_⟩
          have hbl := disj_ne h5
          intro w' M1 A1 Nout H O O2 H2 R2 keep f es dst r ds sl1 q hka hc har hA hN hH hO hq hΓ
          obtain ⟨hkc, hka⟩ : KeptCells c.w w' (c.L b).blk ts ∧ KeptAll c.w w' ps vs := by cases hka with | box h h' => exact ⟨h, h'⟩
          simp only [back, Rd.val_bind, Rd.val_blk, Option.bind_some, hb] at hq
          replace hq := bind_some hq; obtain ⟨q0, g1, hq⟩ := hq
          replace hq := bind_some hq; obtain ⟨q1, g2, hq⟩ := hq
          simp at hq; subst hq
          cases hc with
          | box hbx hcb hrest =>
            rename_i T2 cs ds1 ds2 H3 H4 O3 O4 R3 R4
            have hlen := hcb.len
            obtain ⟨zs, z1, z2, z3, z4, z5⟩ := backBox_ok (A := A1) (keep := keep) h3 hcb (ht ts (List.mem_cons_self ..)) u2 (fun j t0 hj => box_cells u1 hbx (hkc j t0 hj)) g1 (fun i hi => by
              rw [hΓ i (by rw [List.length_append]; omega), List.getD_eq_getElem?_getD, List.getElem?_append_left hi, ← List.getD_eq_getElem?_getD])
            obtain ⟨ys, y1, y2, y3, y4, y5, y6⟩ := r3 w' M1 A1 (b :: k.bs ++ Nout) H O O4 H4 R4 keep f es dst (r + ts.length) ds2 sl1 q1 hka hrest har (fun q hq => by
                rcases hA q hq with h | h
                · rcases List.mem_cons.1 h with h | h
                  · exact .inr ((kb.own q (by rw [h]; exact List.mem_cons_self ..)).mono fun b hb => List.mem_append_left _ hb)
                  · rcases List.mem_append.1 h with h | h
                    · exact .inr ((kb.own q (List.mem_cons_of_mem _ h)).mono fun b hb => List.mem_append_left _ hb)
                    · exact .inl h
                · exact .inr (h.mono fun b hb => List.mem_append_right _ hb))
              (fun b' hb' hm => by
                rcases List.mem_append.1 hm with hm | hm
                · exact hbl b' hm b' hb' rfl
                · exact hN b' (List.mem_append_right (b :: k.bs) hb') hm)
              (fun k hk => hH k (List.mem_cons_of_mem _ (List.mem_append_right _ hk))) (fun k hk => hO k (List.mem_cons_of_mem _ (List.mem_append_right _ hk))) g2 (fun i hi => by
                have := hΓ (ts.length + i) (by rw [List.length_append]; omega)
                rw [← Nat.add_assoc] at this
                rw [this, List.getD_eq_getElem?_getD, List.getElem?_append_right (by omega), hlen.1, Nat.add_sub_cancel_left, ← List.getD_eq_getElem?_getD])
            have hbox : EntOk c w' H keep A1 ⟨b, .box g' q0.1, c.L b, [(c.L b).blk], []⟩ := {
              accs := fun k hk => .inl hk
              kept := fun _ h => nomatch h
              hard := fun k hk => .inl (by rw [List.mem_singleton.1 hk]; exact hH _ (List.mem_cons_self ..))
              gens := by rw [hb]; exact Nat.le_refl _
              row := fun _ _ _ _ _ _ _ _ h => by simp at h
              box := fun g cells hg h => by
                simp only [Blk.box.injEq] at h
                obtain ⟨rfl, rfl⟩ := h
                exact ⟨_, hb, rfl⟩ }
            refine ⟨⟨b, .box g' q0.1, c.L b, [(c.L b).blk], []⟩ :: (zs ++ ys), by simp [z1, y1], ?_, fun z hz => ?_, fun z hz hk => ?_, fun b' hb' => ?_, fun c' hp hn hR hO => ⟨trivial, ?_⟩⟩
            · rw [List.map_cons, List.flatten_cons, List.map_append, List.flatten_append]
              exact (List.Sublist.append z2 y2).cons_cons _
            · rcases List.mem_cons.1 hz with rfl | hz
              · exact hbox
              · rcases List.mem_append.1 hz with hz | hz
                · exact (z3 z hz).1.mono fun k hk => hH k (List.mem_cons_of_mem _ (List.mem_append_left _ hk))
                · exact y3 z hz
            · rcases List.mem_cons.1 hz with rfl | hz
              · exact absurd rfl hk
              · rcases List.mem_append.1 hz with hz | hz
                · exact absurd (z3 z hz).2 hk
                · exact List.mem_append_right (b :: k.bs) (y4 z hz hk)
            · replace hb' : b' ∈ (b :: k.bs) ++ l1.bs := hb'
              rcases List.mem_append.1 hb' with hb' | hb'
              · rcases List.mem_cons.1 hb' with rfl | hb'
                · exact ⟨_, List.mem_cons_self .., rfl⟩
                · obtain ⟨z, hz, e⟩ := z4 b' hb'
                  exact ⟨z, List.mem_cons_of_mem _ (List.mem_append_left _ hz), e⟩
              · obtain ⟨z, hz, e⟩ := y5 b' hb'
                exact ⟨z, List.mem_cons_of_mem _ (List.mem_append_right _ hz), e⟩
            · obtain ⟨a1, a2⟩ := GoodAt.append z5 y6 c' (hp.sub fun z hz => List.mem_cons_of_mem _ hz) (List.nodup_cons.1 hn).2 hR (fun h => nomatch h)
              obtain ⟨p1, p2⟩ := hp.at_ _ (List.mem_cons_self ..)
              simp only at p1 p2
              intro z hz
              rcases List.mem_cons.1 hz with rfl | hz
              · exact ⟨cs, T2, by rw [hp.w]; exact hbx, a1.1⟩
              · exact a2 z hz

end
end Go.Sx
