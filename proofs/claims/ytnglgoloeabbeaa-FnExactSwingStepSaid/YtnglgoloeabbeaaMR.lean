/-
  The machine, part R: the call of a function whose summary is known.
-/
import Derived.Test.YtnglgoloeabbeaaMQ
namespace Go.Sx
open Go Go.RowKit
set_option linter.unusedSimpArgs false
set_option linter.unusedVariables false

theorem cellsOut_sub {w : World} : ∀ {ts : List (Ty × Rm)} {vs : List Value} {ds : List D} {H O R : List Nat}, CellsOut w ts vs ds H O R → ∀ k ∈ H, k ∈ O
  | _, _, _, _, _, _, .nil => fun _ h => h
  | _, _, _, _, _, _, .ro _ _ h => cellsOut_sub h
  | _, _, _, _, _, _, .own hr h => fun k hk => by
    obtain ⟨g, hg⟩ := topOf_rep hr rfl
    rcases List.mem_append.1 hk with hk | hk
    · rw [hg]; exact List.mem_append_left _ (List.mem_append_left _ hk)
    · exact List.mem_append_right _ (cellsOut_sub h k hk)
  | _, _, _, _, _, _, .top hr h => fun k hk => by
    rcases List.mem_append.1 hk with hk | hk
    · exact List.mem_append_left _ hk
    · exact List.mem_append_right _ (cellsOut_sub h k hk)
  | _, _, _, _, _, _, .kept h => cellsOut_sub h

theorem resOut_sub {w : World} : ∀ {ks : List RK} {vs : List Value} {ds : List D} {H O R : List Nat}, ResOut w ks vs ds H O R → ∀ k ∈ H, k ∈ O
  | _, _, _, _, _, _, .nil => fun _ h => h
  | _, _, _, _, _, _, .val _ _ hc h => fun k hk => by
    rcases List.mem_append.1 hk with hk | hk
    · exact List.mem_append_left _ (cellsOut_sub hc k hk)
    · exact List.mem_append_right _ (resOut_sub h k hk)
  | _, _, _, _, _, _, .ptr _ hc h => fun k hk => by
    rcases List.mem_cons.1 hk with rfl | hk
    · exact List.mem_cons_self ..
    · rcases List.mem_append.1 hk with hk | hk
      · exact List.mem_cons_of_mem _ (List.mem_append_left _ (cellsOut_sub hc k hk))
      · exact List.mem_cons_of_mem _ (List.mem_append_right _ (resOut_sub h k hk))

theorem cellsBack_sub {w : World} : ∀ {ts : List (Ty × Md)} {vs : List Value} {ds : List D} {H O : List Nat}, CellsBack w ts vs ds H O → ∀ k ∈ H, k ∈ O
  | _, _, _, _, _, .nil => fun _ h => h
  | _, _, _, _, _, .other _ h => cellsBack_sub h
  | _, _, _, _, _, .wr hr h => fun k hk => by
    obtain ⟨g, hg⟩ := topOf_rep hr rfl
    rcases List.mem_append.1 hk with hk | hk
    · rw [hg]; exact List.mem_append_left _ (List.mem_append_left _ hk)
    · exact List.mem_append_right _ (cellsBack_sub h k hk)

theorem backOut_sub {w : World} : ∀ {ps : List PK} {vs : List Value} {ds : List D} {H O R : List Nat}, BackOut w ps vs ds H O R → ∀ k ∈ H, k ∈ O
  | _, _, _, _, _, _, .nil => fun _ h => h
  | _, _, _, _, _, _, .val _ hc h => fun k hk => by
    rcases List.mem_append.1 hk with hk | hk
    · exact List.mem_append_left _ (cellsBack_sub hc k hk)
    · exact List.mem_append_right _ (backOut_sub h k hk)
  | _, _, _, _, _, _, .box _ hc h => fun k hk => by
    rcases List.mem_cons.1 hk with rfl | hk
    · exact List.mem_cons_self ..
    · rcases List.mem_append.1 hk with hk | hk
      · exact List.mem_cons_of_mem _ (List.mem_append_left _ (cellsOut_sub hc k hk))
      · exact List.mem_cons_of_mem _ (List.mem_append_right _ (backOut_sub h k hk))

theorem cellsIn_sub {w : World} : ∀ {ts : List (Ty × Md)} {vs : List Value} {ds : List D} {r M A : List Nat}, CellsIn w ts vs ds r M A → ∀ k ∈ M, k ∈ A
  | _, _, _, _, _, _, .nil => fun _ h => h
  | _, _, _, _, _, _, .ro _ _ h => cellsIn_sub h
  | _, _, _, _, _, _, .wr _ h => fun k hk => by
    rcases List.mem_append.1 hk with hk | hk
    · exact List.mem_append_left _ hk
    · exact List.mem_append_right _ (cellsIn_sub h k hk)
  | _, _, _, _, _, _, .give _ _ h => fun k hk => by
    rcases List.mem_append.1 hk with hk | hk
    · exact List.mem_append_left _ hk
    · exact List.mem_append_right _ (cellsIn_sub h k hk)

theorem boxIn_sub {w : World} : ∀ {ts : List (Ty × Rm)} {vs : List Value} {ds : List D} {r M A : List Nat}, BoxIn w ts vs ds r M A → ∀ k ∈ M, k ∈ A
  | _, _, _, _, _, _, .nil => fun _ h => h
  | _, _, _, _, _, _, .ro _ _ h => boxIn_sub h
  | _, _, _, _, _, _, .own hr h => fun k hk => by
    obtain ⟨g, hg⟩ := topOf_rep hr rfl
    rcases List.mem_append.1 hk with hk | hk
    · rw [hg]; exact List.mem_append_left _ (List.mem_append_left _ hk)
    · exact List.mem_append_right _ (boxIn_sub h k hk)

theorem argsIn_sub {w : World} : ∀ {ps : List PK} {vs : List Value} {ds : List D} {r M A : List Nat}, ArgsIn w ps vs ds r M A → ∀ k ∈ M, k ∈ A
  | _, _, _, _, _, _, .nil => fun _ h => h
  | _, _, _, _, _, _, .val _ hc h => fun k hk => by
    rcases List.mem_append.1 hk with hk | hk
    · exact List.mem_append_left _ (cellsIn_sub hc k hk)
    · exact List.mem_append_right _ (argsIn_sub h k hk)
  | _, _, _, _, _, _, .box _ hc h => fun k hk => by
    rcases List.mem_cons.1 hk with rfl | hk
    · exact List.mem_cons_self ..
    · rcases List.mem_append.1 hk with hk | hk
      · exact List.mem_cons_of_mem _ (List.mem_append_left _ (boxIn_sub hc k hk))
      · exact List.mem_cons_of_mem _ (List.mem_append_right _ (argsIn_sub h k hk))

/-- Where no slice that comes back is but read. -/
theorem cellsOut_noRo {w : World} : ∀ {ts : List (Ty × Rm)} {vs : List Value} {ds : List D} {H O R : List Nat}, CellsOut w ts vs ds H O R → (ts.any fun x => isSl x.1 && decide (x.2 ≠ .own) && decide (x.2 ≠ .kept)) = false → R = []
  | _, _, _, _, _, _, .nil, _ => rfl
  | _, _, _, _, _, _, .ro (t := t) (m := m) hm hr h, hn => by
    simp only [List.any_cons, Bool.or_eq_false_iff] at hn
    rw [cellsOut_noRo h hn.2]
    have : isSl t = false := by
      rcases hm with h | h
      · exact h
      · subst h; simpa using hn.1
    rw [sc_fp hr this]; rfl
  | _, _, _, _, _, _, .own _ h, hn => by
    simp only [List.any_cons, Bool.or_eq_false_iff] at hn
    exact cellsOut_noRo h hn.2
  | _, _, _, _, _, _, .kept h, hn => by
    simp only [List.any_cons, Bool.or_eq_false_iff] at hn
    exact cellsOut_noRo h hn.2
  | _, _, _, _, _, _, .top _ h, hn => by
    simp [isSl] at hn

theorem resOut_noRo {w : World} : ∀ {ks : List RK} {vs : List Value} {ds : List D} {H O R : List Nat}, ResOut w ks vs ds H O R → (ks.any fun k => k.ts.any fun x => isSl x.1 && decide (x.2 ≠ .own) && decide (x.2 ≠ .kept)) = false → R = []
  | _, _, _, _, _, _, .nil, _ => rfl
  | _, _, _, _, _, _, .val _ _ hc h, hn => by
    simp only [List.any_cons, Bool.or_eq_false_iff] at hn
    rw [cellsOut_noRo hc hn.1, resOut_noRo h hn.2]; rfl
  | _, _, _, _, _, _, .ptr _ hc h, hn => by
    simp only [List.any_cons, Bool.or_eq_false_iff] at hn
    rw [cellsOut_noRo hc hn.1, resOut_noRo h hn.2]; rfl

theorem backOut_noRo {w : World} : ∀ {ps : List PK} {vs : List Value} {ds : List D} {H O R : List Nat}, BackOut w ps vs ds H O R → (ps.any fun k => match k with
      | .val _ _ => false
      | .box ts => ts.any fun x => isSl x.1 && decide (x.2 ≠ .own) && decide (x.2 ≠ .kept)) = false → R = []
  | _, _, _, _, _, _, .nil, _ => rfl
  | _, _, _, _, _, _, .val _ _ h, hn => by
    simp only [List.any_cons, Bool.or_eq_false_iff] at hn
    exact backOut_noRo h hn.2
  | _, _, _, _, _, _, .box _ hc h, hn => by
    simp only [List.any_cons, Bool.or_eq_false_iff] at hn
    rw [cellsOut_noRo hc hn.1, backOut_noRo h hn.2]; rfl

theorem updHp_append {hp : Nat → Option Blk} : ∀ {l m : List (Nat × Blk)}, updHp hp (l ++ m) = updHp (updHp hp l) m
  | [], m => rfl
  | (b, x) :: l, m => by rw [List.cons_append, updHp, updHp_append, updHp]

theorem distinct_inj : ∀ {zs : List Ent}, distinct (zs.map Ent.b) = true → ∀ {z z' : Ent}, z ∈ zs → z' ∈ zs → z.b = z'.b → z = z'
  | [], _, _, _, h, _, _ => nomatch h
  | y :: ys, hd, z, z', hz, hz', e => by
    simp only [List.map_cons, distinct, Bool.and_eq_true, Bool.not_eq_true', List.contains_eq_mem, decide_eq_false_iff_not] at hd
    rcases List.mem_cons.1 hz with h1 | h1 <;> rcases List.mem_cons.1 hz' with h2 | h2
    · rw [h1, h2]
    · subst h1; exact absurd (e ▸ List.mem_map_of_mem h2) hd.1
    · subst h2; exact absurd (e ▸ List.mem_map_of_mem h1) hd.1
    · exact distinct_inj hd.2 h1 h2 e

theorem flat_mem {zs : List Ent} {z : Ent} {k : Nat} (hz : z ∈ zs) (hk : k ∈ z.o) : k ∈ (zs.map Ent.o).flatten := List.mem_flatten.2 ⟨_, List.mem_map_of_mem hz, hk⟩

theorem flat_apart : ∀ {zs : List Ent}, (zs.map Ent.o).flatten.Nodup → ∀ {z z' : Ent}, z ∈ zs → z' ∈ zs → z ≠ z' → ∀ k ∈ z.o, k ∉ z'.o
  | [], _, _, _, h, _, _, _, _ => nomatch h
  | y :: ys, hd, z, z', hz, hz', e, k, hk => by
    simp only [List.map_cons, List.flatten_cons] at hd
    obtain ⟨h1, h2, h3⟩ := List.nodup_append.1 hd
    rcases List.mem_cons.1 hz with q1 | q1 <;> rcases List.mem_cons.1 hz' with q2 | q2
    · exact absurd (q1.trans q2.symm) e
    · subst q1; exact fun h => h3 k hk k (flat_mem q2 h) rfl
    · subst q2; exact fun h => h3 k h k (flat_mem q1 hk) rfl
    · exact flat_apart h2 q1 q2 e k hk

theorem undup_mem {l : List Nat} {a : Nat} : a ∈ undup l ↔ a ∈ l := by
  induction l with
  | nil => simp [undup]
  | cons b l ih =>
    simp only [undup]
    split
    · rename_i h
      rw [ih]
      simp only [List.contains_eq_mem, decide_eq_true_eq] at h
      constructor
      · exact fun hm => List.mem_cons_of_mem _ hm
      · intro hm
        rcases List.mem_cons.1 hm with rfl | hm
        · exact h
        · exact hm
    · simp [ih]

theorem sigOk_top {sg : Sig} (h : sigOk sg = true) : ∀ ts, PK.box ts ∈ sg.params → ∀ x ∈ ts, x.2 ≠ .top := by
  intro ts hts x hx
  simp only [sigOk, Bool.and_eq_true, List.all_eq_true] at h
  have := h.2 _ hts
  simp only [Bool.and_eq_true, List.all_eq_true, decide_eq_true_eq] at this
  exact (this.2 x hx).1

theorem sigOk_kept {sg : Sig} (h : sigOk sg = true) : ∀ k ∈ sg.res, ∀ x ∈ k.ts, x.2 ≠ .kept := by
  intro k hk x hx
  simp only [sigOk, Bool.and_eq_true, List.all_eq_true, decide_eq_true_eq] at h
  exact h.1 k hk x hx

def locAt (c : Ctx) (zs : List Ent) (i : Nat) : Loc := match zs.find? (fun z => z.b == i) with
  | some z => z.l
  | none => c.L i
/-- The state behind a call. -/
def Ctx.after (c : Ctx) (upd : List (Nat × Blk)) (zs : List Ent) (w' : World) : Ctx := { c with hp := updHp c.hp upd, L := ⟨locAt c zs, c.L.X⟩, w := w' }

section
variable {P : Program} {c : Ctx} {sl : Nat → AV} {a : Act} {B : Base}

theorem useUp_ok {sl0 : Nat → AV} : ∀ {l : List Nat} {us : List (Nat × Blk)}, (useUp l).val sl0 c.hp = some us → us.map (·.1) = l ∧ Used c us
  | [], us, h => by simp [useUp] at h; subst h; exact ⟨rfl, fun _ h => nomatch h⟩
  | b :: l, us, h => by
    simp only [useUp, Rd.val_bind] at h
    replace h := bind_some h; obtain ⟨us', h1, h⟩ := h
    simp only [Rd.val_blk, Option.bind_some] at h
    split at h
    case h_2 => simp at h
    rename_i hb
    simp at h; subst h
    obtain ⟨r1, r2⟩ := useUp_ok h1
    refine ⟨by simp [r1], fun y hy => ?_⟩
    rcases List.mem_cons.1 hy with rfl | hy
    · exact ⟨_, _, _, _, _, _, _, rfl, hb⟩
    · exact r2 y hy

theorem takeRes_rows {f dst : Nat} {es : List E} {clean : Bool} {sl0 : Nat → AV} : ∀ {ts : List (Ty × Rm)} {r : Nat} {q : List AV × List (Nat × Blk)}, (takeRes f es dst clean false r ts).val sl0 c.hp = some q → q.2 = []
  | [], r, q, h => by simp [takeRes] at h; subst h; rfl
  | (t, m) :: ts, r, q, h => by
    have : ∃ x, (takeRes f es dst clean false (r + 1) ts >>= fun p => Rd.pure (x :: p.1, p.2)).val sl0 c.hp = some q := by
      cases t with
      | sl t0 => simp only [takeRes, Bool.not_false, Bool.true_or, if_true] at h; exact ⟨_, h⟩
      | int k => exact ⟨_, h⟩
      | bool => exact ⟨_, h⟩
      | str => exact ⟨_, h⟩
      | err => exact ⟨_, h⟩
    obtain ⟨x, h⟩ := this
    simp only [Rd.val_bind] at h
    replace h := bind_some h; obtain ⟨p, h1, h⟩ := h
    simp at h; subst h
    show p.2 = []
    exact takeRes_rows h1

theorem takeAll_rows {f dst : Nat} {es : List E} {clean : Bool} {sl0 : Nat → AV} : ∀ {ks : List RK} {r : Nat} {q : List AV × List (Nat × Blk) × Nat}, (takeAll f es dst clean false r ks).val sl0 c.hp = some q → q.2.1 = []
  | [], r, q, h => by simp [takeAll] at h; subst h; rfl
  | k :: ks, r, q, h => by
    simp only [takeAll, Rd.val_bind] at h
    replace h := bind_some h; obtain ⟨⟨vs, us⟩, h1, h⟩ := h
    have e1 := takeRes_rows h1
    simp only at e1; subst e1
    cases hs : k.shape with
    | ptr =>
      simp only [hs, Rd.val_bind, Rd.val_blk, Option.bind_some] at h
      replace h := bind_some h; obtain ⟨q', _, h⟩ := h
      simp only [Rd.if_bind, Bool.and_eq_true, Bool.false_eq_true, and_false, false_and] at h
    | one =>
      simp only [hs, Rd.val_bind, Rd.val_opt] at h
      replace h := bind_some h; obtain ⟨x, _, h⟩ := h
      replace h := bind_some h; obtain ⟨q', h2, h⟩ := h
      simp at h; subst h
      simpa using takeAll_rows h2
    | agg =>
      simp only [hs, Rd.val_bind, Rd.val_opt] at h
      replace h := bind_some h; obtain ⟨x, _, h⟩ := h
      replace h := bind_some h; obtain ⟨q', h2, h⟩ := h
      simp at h; subst h
      simpa using takeAll_rows h2

/-- One value, or several as one. -/
def tupAV (vs : List AV) : Option AV := match vs with
  | [v] => some v
  | vs => some (.tup vs)

/-- The callee's foreign blocks. -/
def foreignTo (c : Ctx) (ro : Bool) (A : List Nat) (vs : List Nat) (k : Nat) : Prop := c.L.X k ∨ (ro = true ∧ k ∉ A ∧ ∃ b, b ∉ vs ∧ ∃ x, c.hp b = some x ∧ k ∈ hard x (c.L b))

theorem came_eff (s : Sim B c sl a) {sl0 : Nat → AV} {sg : Sig} {xs : List AV} {args : List Value} {l : Lent} {ro M A : List Nat} {f dst n : Nat} {rows cl : Bool} {vs : List AV} {us bs rs : List (Nat × Blk)} {val : AV} {need : List Need} {v : Value} {w' : World}
    (hsok : sigOk sg = true) (hin : ArgsIn c.w sg.params args (c.dens l.es) ro M A) (hlent : LentOk c l ro M A) (hbk : BackP c sg.params xs args l.bs A) (hdis : disj l.bs l.vs = true)
    (htake : (takeAll f l.es dst (cl && (l.hard && !sg.hasRo)) rows 0 sg.res).val sl0 c.hp = some (vs, us, n)) (hback : (back f l.es dst (l.hard && !sg.hasRo) n sg.params xs).val sl0 c.hp = some bs)
    (hdn : distinct ((us ++ bs).map (·.1)) = true) (hrs : (useUp (if sg.hasRo then undup (l.vs.filter fun b => !((us ++ bs).map (·.1)).contains b) else [])).val sl0 c.hp = some rs)
    (hval : tupAV vs = some val)
    (came : Came sg c.w args M A (foreignTo c sg.hasRo A l.vs) (c.Γ f (c.dens l.es)) v w') :
    ∃ c', c'.w = w' ∧ EffOk c { val := val, upd := us ++ bs ++ rs, need := need } c' v := by
  obtain ⟨hk, hka, rv, d1, d2, H1, O1, R1, H2, O2, R2, hret, hout, hres, hbo, hnd, hOA, hHM, hR⟩ := came
  have hsub : ∀ k ∈ M, k ∈ A := argsIn_sub hin
  have har : Around c w' M A (O1 ++ O2) := ⟨hk, hsub, hOA⟩
  obtain ⟨keep, hkeep⟩ : ∃ keep, keep = (l.hard && !sg.hasRo) := ⟨_, rfl⟩
  rw [← hkeep] at htake hback
  obtain ⟨hn1, zs, z1, z2, z3, z4⟩ := takeAll_ok (A := A) (keep := keep) (fun h => by simp only [Bool.and_eq_true] at h; exact h.2) hres (sigOk_kept hsok) htake (fun i hi => by
    rw [hout, Nat.zero_add, List.getD_eq_getElem?_getD, List.getElem?_append_left hi, ← List.getD_eq_getElem?_getD])
  simp only [Nat.zero_add] at hn1
  obtain ⟨ys, y1, y2, y3, y4, y5, y6⟩ := hbk w' M A [] H2 (O1 ++ O2) O2 H2 R2 keep f l.es dst n d2 sl0 bs hka hbo har (fun k hk => .inl hk) (fun b _ h => nomatch h) (fun k hk => hk) (fun k hk => List.mem_append_right _ hk) hback (fun i hi => by
    rw [hout, hn1, List.getD_eq_getElem?_getD, List.getElem?_append_right (by omega), Nat.add_sub_cancel_left, ← List.getD_eq_getElem?_getD])
  simp only at z1
  have hnames : (us ++ bs).map (·.1) = (zs ++ ys).map Ent.b := by rw [← z1, ← y1]; simp; rfl
  have hupd : us ++ bs = (zs ++ ys).map fun z => (z.b, z.x) := by rw [← z1, ← y1]; simp
  rw [hnames] at hdn hrs
  obtain ⟨r1, r2⟩ := useUp_ok hrs
  -- of all entries
  have eOk : ∀ z ∈ zs ++ ys, EntOk c w' (H1 ++ H2) keep A z := fun z hz => by
    rcases List.mem_append.1 hz with hz | hz
    · exact (z3 z hz).1.mono fun k hk => List.mem_append_left _ hk
    · exact (y3 z hz).mono fun k hk => List.mem_append_right _ hk
  have eK : ∀ z ∈ zs ++ ys, z.k ≠ [] → z.b ∈ l.bs := fun z hz hkk => by
    rcases List.mem_append.1 hz with hz | hz
    · exact absurd (z3 z hz).2 hkk
    · exact y4 z hz hkk
  have eO : ((zs ++ ys).map Ent.o).flatten.Sublist (O1 ++ O2) := by
    rw [List.map_append, List.flatten_append]
    exact List.Sublist.append z2 y2
  have eNd : ((zs ++ ys).map Ent.o).flatten.Nodup := eO.nodup hnd
  have eMem : ∀ z ∈ zs ++ ys, ∀ k ∈ z.o, k ∈ O1 ++ O2 := fun z hz k hk => eO.subset (flat_mem hz hk)
  have eFrom : ∀ z ∈ zs ++ ys, ∀ k ∈ z.o, c.w.heap.size ≤ k ∨ k ∈ A := fun z hz k hk => hOA k (eMem z hz k hk)
  have eAcc : ∀ z ∈ zs ++ ys, ∀ k ∈ z.k, k ∉ A ∧ k < c.w.heap.size ∧ ∃ x0, c.hp z.b = some x0 ∧ k ∈ acc x0 (c.L z.b) := fun z hz k hk => by
    obtain ⟨h1, x0, h2, h3⟩ := (eOk z hz).kept k hk
    exact ⟨h1, acc_lt s h2 k h3, x0, h2, h3⟩
  -- the names that are used up
  have rNames : ∀ y ∈ rs, sg.hasRo = true ∧ y.1 ∈ l.vs ∧ ∀ z ∈ zs ++ ys, z.b ≠ y.1 := fun y hy => by
    have hm : y.1 ∈ rs.map (·.1) := List.mem_map_of_mem hy
    rw [r1] at hm
    split at hm
    · rename_i hh
      rw [undup_mem, List.mem_filter] at hm
      refine ⟨hh, hm.1, fun z hz e => ?_⟩
      have := hm.2
      simp only [Bool.not_eq_true', List.contains_eq_mem, decide_eq_false_iff_not] at this
      exact this (e ▸ List.mem_map_of_mem hz)
    · exact nomatch hm
  have rAll : sg.hasRo = true → ∀ b ∈ l.vs, (∀ z ∈ zs ++ ys, z.b ≠ b) → ∃ y ∈ rs, y.1 = b := fun hh b hb hz => by
    have : b ∈ rs.map (·.1) := by
      rw [r1, if_pos hh, undup_mem, List.mem_filter]
      refine ⟨hb, ?_⟩
      simp only [Bool.not_eq_true', List.contains_eq_mem, decide_eq_false_iff_not]
      intro hm
      obtain ⟨z, hz1, hz2⟩ := List.mem_map.1 hm
      exact hz z hz1 hz2
    obtain ⟨y, hy, e⟩ := List.mem_map.1 this
    exact ⟨y, hy, e⟩
  have hbl := disj_ne hdis
  -- the state
  let c' := c.after (us ++ bs ++ rs) (zs ++ ys) w'
  have hW : ∀ b, b ∈ (us ++ bs ++ rs).map (·.1) ↔ (∃ z ∈ zs ++ ys, z.b = b) ∨ ∃ y ∈ rs, y.1 = b := by
    intro b
    rw [List.map_append, List.mem_append, hnames]
    simp only [List.mem_map]
  have hpE : ∀ z ∈ zs ++ ys, c'.hp z.b = some z.x := fun z hz => by
    refine updHp_mem (fun y hy e => ?_) ⟨(z.b, z.x), ?_, rfl⟩
    · rcases List.mem_append.1 hy with hy | hy
      · rw [hupd] at hy
        obtain ⟨z', hz', rfl⟩ := List.mem_map.1 hy
        rw [distinct_inj hdn hz' hz e]
      · exact absurd e.symm ((rNames y hy).2.2 z hz)
    · refine List.mem_append_left _ ?_
      rw [hupd]
      exact List.mem_map_of_mem (f := fun z => (z.b, z.x)) hz
  have hpR : ∀ y ∈ rs, c'.hp y.1 = some y.2 := fun y hy => by
    refine updHp_mem (fun y' hy' e => ?_) ⟨y, List.mem_append_right _ hy, rfl⟩
    rcases List.mem_append.1 hy' with hy' | hy'
    · rw [hupd] at hy'
      obtain ⟨z', hz', rfl⟩ := List.mem_map.1 hy'
      exact absurd e ((rNames y hy).2.2 z' hz')
    · obtain ⟨g1, u1, t1, e1, o1, c1, l1, a1, a2⟩ := r2 y' hy'
      obtain ⟨g2, u2, t2, e2, o2, c2, l2, b1, b2⟩ := r2 y hy
      rw [e, b2] at a2
      simp only [Option.some.injEq, Blk.row.injEq] at a2
      obtain ⟨rfl, rfl, rfl, rfl, rfl, rfl, rfl⟩ := a2
      rw [a1, b1]
  have hpO : ∀ b, b ∉ (us ++ bs ++ rs).map (·.1) → c'.hp b = c.hp b := fun b hb => updHp_not fun y hy e => hb (e ▸ List.mem_map_of_mem hy)
  have hLE : ∀ z ∈ zs ++ ys, c'.L z.b = z.l := fun z hz => by
    show locAt c (zs ++ ys) z.b = z.l
    unfold locAt
    cases hf : (zs ++ ys).find? (fun z' => z'.b == z.b) with
    | none =>
      have := List.find?_eq_none.1 hf z hz
      simp at this
    | some z' =>
      have h1 := List.find?_some hf
      simp only [beq_iff_eq] at h1
      rw [distinct_inj hdn (List.mem_of_find?_eq_some hf) hz h1]
  have hLO : ∀ b, (∀ z ∈ zs ++ ys, z.b ≠ b) → c'.L b = c.L b := fun b hb => by
    show locAt c (zs ++ ys) b = c.L b
    unfold locAt
    cases hf : (zs ++ ys).find? (fun z' => z'.b == b) with
    | none => rfl
    | some z' =>
      have h1 := List.find?_some hf
      simp only [beq_iff_eq] at h1
      exact absurd h1 (hb z' (List.mem_of_find?_eq_some hf))
  have hcases : ∀ b, (∃ z ∈ zs ++ ys, z.b = b) ∨ ((∃ y ∈ rs, y.1 = b) ∧ ∀ z ∈ zs ++ ys, z.b ≠ b) ∨ b ∉ (us ++ bs ++ rs).map (·.1) := by
    intro b
    by_cases h1 : ∃ z ∈ zs ++ ys, z.b = b
    · exact .inl h1
    · by_cases h2 : ∃ y ∈ rs, y.1 = b
      · exact .inr (.inl ⟨h2, fun z hz e => h1 ⟨z, hz, e⟩⟩)
      · refine .inr (.inr fun h => ?_)
        rcases (hW b).1 h with h | h
        · exact h1 h
        · exact h2 h
  have hnotE : ∀ b, b ∉ (us ++ bs ++ rs).map (·.1) → ∀ z ∈ zs ++ ys, z.b ≠ b := fun b hb z hz e => hb ((hW b).2 (.inl ⟨z, hz, e⟩))
  have hbsE : ∀ b ∈ l.bs, ∃ z ∈ zs ++ ys, z.b = b := fun b hb => by
    obtain ⟨z, hz, e⟩ := y5 b hb
    exact ⟨z, List.mem_append_right _ hz, e⟩
  -- the blocks that were handed over, and other names
  have srcApart : ∀ {b : Nat} {x : Blk} {k : Nat}, (∀ z ∈ zs ++ ys, z.b ≠ b) → c.hp b = some x → k ∈ acc x (c.L b) → Src c l.bs k → False := by
    intro b x k hb hx hk ⟨b1, hb1, x1, h1, h2⟩
    obtain ⟨z, hz, e⟩ := hbsE b1 hb1
    exact s.disj b b1 x x1 (fun e' => hb z hz (e.trans e'.symm)) hx h1 k hk h2
  have hardR : ∀ {y : Nat × Blk} {k : Nat} {lo : Loc}, y ∈ rs → k ∉ hard y.2 lo ∧ k ∉ acc y.2 lo := by
    intro y k lo hy
    obtain ⟨g2, u2, t2, e2, o2, c2, l2, b1, b2⟩ := r2 y hy
    rw [b1]
    exact ⟨(fun h => nomatch h), (fun h => nomatch h)⟩
  have hΓρ : c'.Γ = c.Γ ∧ c'.ρ = c.ρ ∧ c'.w = w' := ⟨rfl, rfl, rfl⟩
  have noRo : sg.hasRo = false → R1 = [] ∧ R2 = [] := fun h => by
    simp only [Sig.hasRo, Bool.or_eq_false_iff] at h
    exact ⟨resOut_noRo hres h.1, backOut_noRo hbo h.2⟩
  have keepRo : keep = true → sg.hasRo = false ∧ l.hard = true := fun h => by
    rw [hkeep] at h
    simpa [and_comm] using h
  -- what is only read is nobody's to write
  have permR : ∀ k ∈ R1 ++ R2, Perm c'.hp c'.L k := by
    intro k hkR
    obtain ⟨hH, hX⟩ := hR k hkR
    have hro : sg.hasRo = true := by
      cases hh : sg.hasRo with
      | true => rfl
      | false => obtain ⟨e1, e2⟩ := noRo hh; rw [e1, e2] at hkR; exact nomatch hkR
    refine ⟨fun b x hx hm => ?_, fun h => hX (.inl h)⟩
    rcases hcases b with ⟨z, hz, rfl⟩ | ⟨⟨y, hy, rfl⟩, hz⟩ | hb
    · rw [hpE z hz] at hx
      simp only [Option.some.injEq] at hx
      subst hx
      rw [hLE z hz] at hm
      rcases (eOk z hz).hard k hm with h | ⟨h, _⟩ | ⟨h, x0, h1, h2⟩
      · exact hH h
      · rw [(keepRo h).1] at hro; exact nomatch hro
      · refine hX (.inr ⟨hro, (eAcc z hz k h).1, z.b, fun hv => ?_, x0, h1, h2⟩)
        exact hbl z.b (eK z hz (fun e => by rw [e] at h; exact nomatch h)) z.b hv rfl
    · rw [hpR y hy] at hx
      simp only [Option.some.injEq] at hx
      subst hx
      exact (hardR hy).1 hm
    · rw [hpO b hb] at hx
      rw [hLO b (hnotE b hb)] at hm
      by_cases hA : k ∈ A
      · exact srcApart (hnotE b hb) hx (hard_acc (s.blks _ _ hx) k hm) (hlent.own k hA)
      · refine hX (.inr ⟨hro, hA, b, fun hv => ?_, x, hx, hm⟩)
        obtain ⟨y, hy, e⟩ := rAll hro b hv (hnotE b hb)
        exact hb ((hW b).2 (.inr ⟨y, hy, e⟩))
  obtain ⟨nd1, nd2, nd3⟩ := List.nodup_append.1 hnd
  have permO : rows = false → ∀ k ∈ O1, Perm c'.hp c'.L k := by
    intro hrow k hkO
    subst hrow
    have hzs : zs = [] := by
      have := takeAll_rows htake
      simp only at this
      rw [this] at z1
      exact List.map_eq_nil_iff.1 z1
    have hfr := hOA k (List.mem_append_left _ hkO)
    refine ⟨fun b x hx hm => ?_, fun h => ?_⟩
    · rcases hcases b with ⟨z, hz, rfl⟩ | ⟨⟨y, hy, rfl⟩, hz⟩ | hb
      · rw [hpE z hz] at hx
        simp only [Option.some.injEq] at hx
        subst hx
        rw [hLE z hz] at hm
        have hz' : z ∈ ys := by rw [hzs] at hz; simpa using hz
        rcases (y3 z hz').hard k hm with h | ⟨_, h⟩ | ⟨h, _⟩
        · exact nd3 k hkO k (backOut_sub hbo k h) rfl
        · exact nd3 k hkO k (y2.subset (flat_mem hz' h)) rfl
        · obtain ⟨h1, h2, _⟩ := eAcc z hz k h
          rcases hfr with h3 | h3
          · omega
          · exact h1 h3
      · rw [hpR y hy] at hx
        simp only [Option.some.injEq] at hx
        subst hx
        exact (hardR hy).1 hm
      · rw [hpO b hb] at hx
        rw [hLO b (hnotE b hb)] at hm
        have hacc := hard_acc (s.blks _ _ hx) k hm
        rcases hfr with h3 | h3
        · have := acc_lt s hx k hacc; omega
        · exact srcApart (hnotE b hb) hx hacc (hlent.own k h3)
    · rcases hfr with h3 | h3
      · have := s.old k h; omega
      · obtain ⟨b1, _, x1, h1, h2⟩ := hlent.own k h3
        exact s.apart b1 x1 h1 k h2 h
  have hstep : Step c c' ((us ++ bs ++ rs).map (·.1)) := {
    foreign := rfl
    given := rfl
    Γ := rfl
    ρ := rfl
    size := hk.size
    same := fun b hb => ⟨hpO b hb, hLO b (hnotE b hb)⟩
    mem := fun k hlt hno => hk.block k hlt fun hM => by
      obtain ⟨b, hb, x, h1, h2⟩ := hlent.hard k hM
      exact hno b ((hW b).2 (.inl (hbsE b hb))) x h1 h2
    gens := fun b hb => by
      rcases (hW b).1 hb with ⟨z, hz, rfl⟩ | ⟨y, hy, rfl⟩
      · rw [hpE z hz]; exact (eOk z hz).gens
      · rw [hpR y hy]
        obtain ⟨g2, u2, t2, e2, o2, c2, l2, b1, b2⟩ := r2 y hy
        rw [b1, b2]; exact Nat.le_refl _
    hard := fun b hb x' hx' k hm hlt => by
      have fromA : k ∈ M ∨ (l.hard = true ∧ k ∈ A) → ∃ b0 ∈ (us ++ bs ++ rs).map (·.1), ∃ x, c.hp b0 = some x ∧ k ∈ hard x (c.L b0) := by
        intro h
        have : Hsrc c l.bs k := by
          rcases h with h | ⟨h1, h2⟩
          · exact hlent.hard k h
          · exact hlent.all h1 k h2
        obtain ⟨b0, hb0, x0, h1, h2⟩ := this
        exact ⟨b0, (hW b0).2 (.inl (hbsE b0 hb0)), x0, h1, h2⟩
      rcases (hW b).1 hb with ⟨z, hz, rfl⟩ | ⟨y, hy, rfl⟩
      · rw [hpE z hz] at hx'
        simp only [Option.some.injEq] at hx'
        subst hx'
        rw [hLE z hz] at hm
        rcases (eOk z hz).hard k hm with h | ⟨h, h'⟩ | ⟨h, x0, h1, h2⟩
        · rcases hHM k h with h3 | h3
          · omega
          · exact fromA (.inl h3)
        · rcases eFrom z hz k h' with h3 | h3
          · omega
          · exact fromA (.inr ⟨(keepRo h).2, h3⟩)
        · exact ⟨z.b, hb, x0, h1, h2⟩
      · rw [hpR y hy] at hx'
        simp only [Option.some.injEq] at hx'
        subst hx'
        exact absurd hm (hardR hy).1
    row := fun b hb g u' ts' e' own' clean' live' hg hx' => by
      rcases (hW b).1 hb with ⟨z, hz, rfl⟩ | ⟨y, hy, rfl⟩
      · rw [hpE z hz] at hx'
        simp only [Option.some.injEq] at hx'
        obtain ⟨u, e, own, clean, live, h1, h2, h3, h4, h5⟩ := (eOk z hz).row g u' ts' e' own' clean' live' hg hx'
        refine ⟨u, e, own, clean, live, h1, by rw [hLE z hz]; exact h2, by rw [hLE z hz]; exact h3, h4, fun hl => ⟨(h5 hl).1, fun hu n j ts v hj hc => ?_⟩⟩
        have hcell := (h5 hl).2 hu n j ts v hj hc
        obtain ⟨o', len, cap, x1, x2, x3⟩ := hc
        refine ⟨o', len, cap, by rw [hLE z hz, h2, h3]; exact x1, x2, ?_⟩
        rw [hLE z hz, h3]
        simp only [x1] at hcell
        exact hcell
      · rw [hpR y hy] at hx'
        obtain ⟨g2, u2, t2, e2, o2, c2, l2, b1, b2⟩ := r2 y hy
        rw [b1] at hx'
        simp only [Option.some.injEq, Blk.row.injEq] at hx'
        obtain ⟨rfl, rfl, rfl, rfl, rfl, rfl, rfl⟩ := hx'
        have hL := hLO y.1 (rNames y hy).2.2
        exact ⟨_, _, _, _, _, b2, by rw [hL], by rw [hL], (fun h => nomatch h), (fun h => nomatch h)⟩
    box := fun b hb g cells' hg hx' => by
      rcases (hW b).1 hb with ⟨z, hz, rfl⟩ | ⟨y, hy, rfl⟩
      · rw [hpE z hz] at hx'
        simp only [Option.some.injEq] at hx'
        obtain ⟨cells, h1, h2⟩ := (eOk z hz).box g cells' hg hx'
        exact ⟨cells, h1, by rw [hLE z hz]; exact h2⟩
      · rw [hpR y hy] at hx'
        obtain ⟨g2, u2, t2, e2, o2, c2, l2, b1, b2⟩ := r2 y hy
        rw [b1] at hx'
        simp at hx' }
  -- the state stands
  have hplE : Placed c c' w' (zs ++ ys) := ⟨rfl, rfl, rfl, fun x v h => AVOk.step hstep s.blks s.disj x v h, fun z hz => ⟨hpE z hz, hLE z hz⟩⟩
  obtain ⟨hvs, hbz⟩ := z4 c' (hplE.sub fun z hz => List.mem_append_left _ hz) nd1 (fun k hk => permR k (List.mem_append_left _ hk)) permO
  obtain ⟨_, hby⟩ := y6 c' (hplE.sub fun z hz => List.mem_append_right _ hz) nd2 (fun k hk => permR k (List.mem_append_right _ hk)) (fun h => nomatch h)
  refine ⟨c', rfl, {
    hp := rfl
    step := hstep
    val := ?_
    blks := fun b hb x hx => ?_
    accs := fun b hb x' hx' k hk' => ?_
    disj := fun b b' x x' hb hb' hne hx hx' k hk' hk'' => ?_
    frame := ⟨hk.os, hk.tape, hk.output⟩ }⟩
  · unfold retVal at hret
    match vs, rv, hvs with
    | [v1], [x1], hvs => simp [tupAV] at hval; subst hval; simp only at hret; rw [hret]; exact hvs.1
    | [], [], hvs => simp [tupAV] at hval; subst hval; simp only at hret; exact ⟨[], hret, trivial⟩
    | v1 :: v2 :: vs, x1 :: x2 :: rv, hvs => simp [tupAV] at hval; subst hval; simp only at hret; exact ⟨_, hret, hvs⟩
    | [], _ :: _, hvs => exact hvs.elim
    | _ :: _, [], hvs => exact hvs.elim
    | [_], _ :: _ :: _, hvs => exact hvs.2.elim
    | _ :: _ :: _, [_], hvs => exact hvs.2.elim
  · rcases (hW b).1 hb with ⟨z, hz, rfl⟩ | ⟨y, hy, rfl⟩
    · rw [hpE z hz] at hx
      simp only [Option.some.injEq] at hx
      subst hx
      rw [hLE z hz]
      rcases List.mem_append.1 hz with hz | hz
      · exact hbz z hz
      · exact hby z hz
    · rw [hpR y hy] at hx
      simp only [Option.some.injEq] at hx
      obtain ⟨hro, hyv, hyz⟩ := rNames y hy
      obtain ⟨g2, u2, t2, e2, o2, c2, l2, b1, b2⟩ := r2 y hy
      rw [← hx, b1, hLO y.1 hyz]
      have hbk0 := s.blks _ _ b2
      have hfrom := row_took s b2
      have hlt : ∀ k ∈ (c.L y.1).top ++ (c.L y.1).fp, k < c.w.heap.size := (row_rep hbk0).lt
      have ksrc : ∀ k, Src c [y.1] k → Src c l.bs k → False := by
        intro k ⟨b3, hb3, x3, h1, h2⟩ h
        rw [List.mem_singleton.1 hb3] at h1 h2
        exact srcApart hyz h1 h2 h
      have still : ∀ k ∈ (c.L y.1).top ++ (c.L y.1).fp, w'.heap[k]? = c.w.heap[k]? := fun k hk1 => hk.block k (hlt k hk1) fun hM => by
        rcases hfrom k hk1 with h | h
        · obtain ⟨b3, _, x3, h1, h2⟩ := hlent.hard k hM
          exact h.1 b3 x3 h1 h2
        · exact ksrc k h ((hlent.hard k hM).src s)
      have perm : ∀ k ∈ (c.L y.1).top ++ (c.L y.1).fp, Perm c'.hp c'.L k := fun k hk1 => by
        rcases hfrom k hk1 with h | h
        · exact hstep.perm (hlt k hk1) h
        · refine ⟨fun b3 x3 hx3 hm => ?_, fun hX => ?_⟩
          · rcases hcases b3 with ⟨z, hz, rfl⟩ | ⟨⟨y', hy', rfl⟩, hz⟩ | hb3
            · rw [hpE z hz] at hx3
              simp only [Option.some.injEq] at hx3
              subst hx3
              rw [hLE z hz] at hm
              rcases (eOk z hz).hard k hm with h4 | ⟨h4, _⟩ | ⟨h4, x0, h5, h6⟩
              · rcases hHM k h4 with h5 | h5
                · have := hlt k hk1; omega
                · exact ksrc k h ((hlent.hard k h5).src s)
              · rw [(keepRo h4).1] at hro; exact nomatch hro
              · exact ksrc k h ⟨z.b, eK z hz (fun e => by rw [e] at h4; exact nomatch h4), x0, h5, hard_acc (s.blks _ _ h5) k h6⟩
            · rw [hpR y' hy'] at hx3
              simp only [Option.some.injEq] at hx3
              subst hx3
              exact (hardR hy').1 hm
            · rw [hpO b3 hb3] at hx3
              rw [hLO b3 (hnotE b3 hb3)] at hm
              obtain ⟨b4, hb4, x4, h1, h2⟩ := h
              rw [List.mem_singleton.1 hb4] at h1 h2
              exact s.disj b3 y.1 _ _ (fun e => hb3 ((hW b3).2 (.inr ⟨y, hy, e.symm⟩))) hx3 h1 k (hard_acc (s.blks _ _ hx3) k hm) h2
          · obtain ⟨b4, hb4, x4, h1, h2⟩ := h
            exact s.apart b4 x4 h1 k h2 hX
      obtain ⟨⟨d, hd0, hd1⟩, q2, q3, q4, q5⟩ := hbk0
      refine ⟨⟨d, hd0, ?_⟩, fun _ => perm, (fun h => nomatch h), (fun h => nomatch h), q5⟩
      rcases hd1 with h1 | ⟨o', len, cap, vs', e1, e2', e3, e4, e5, e6, e7, e8⟩
      · exact .inl h1
      · have ht : (c.L y.1).blk ∈ (c.L y.1).top ++ (c.L y.1).fp := by rw [Loc.top_some e1]; exact List.mem_append_left _ (List.mem_singleton.2 rfl)
        exact .inr ⟨o', len, cap, vs', e1, e2'.alike (still _ ht), e3, e4, e5, (fun h => nomatch h), Nat.lt_of_lt_of_le e7 hk.size, e8.alike fun k hk1 => still k (List.mem_append_right _ hk1)⟩
  · rcases (hW b).1 hb with ⟨z, hz, rfl⟩ | ⟨y, hy, rfl⟩
    · rw [hpE z hz] at hx'
      simp only [Option.some.injEq] at hx'
      subst hx'
      rw [hLE z hz] at hk'
      rcases (eOk z hz).accs k hk' with h | h
      · rcases eFrom z hz k h with h3 | h3
        · exact .inl h3
        · obtain ⟨b0, hb0, x0, h1, h2⟩ := hlent.own k h3
          exact .inr ⟨b0, (hW b0).2 (.inl (hbsE b0 hb0)), x0, h1, h2⟩
      · obtain ⟨_, _, x0, h1, h2⟩ := eAcc z hz k h
        exact .inr ⟨z.b, hb, x0, h1, h2⟩
    · rw [hpR y hy] at hx'
      simp only [Option.some.injEq] at hx'
      subst hx'
      exact absurd hk' (hardR hy).2
  · rcases (hW b).1 hb with ⟨z, hz, rfl⟩ | ⟨y, hy, rfl⟩
    case inr =>
      rw [hpR y hy] at hx
      simp only [Option.some.injEq] at hx
      subst hx
      exact (hardR hy).2 hk'
    rcases (hW b').1 hb' with ⟨z', hz', rfl⟩ | ⟨y, hy, rfl⟩
    case inr =>
      rw [hpR y hy] at hx'
      simp only [Option.some.injEq] at hx'
      subst hx'
      exact (hardR hy).2 hk''
    rw [hpE z hz] at hx
    rw [hpE z' hz'] at hx'
    simp only [Option.some.injEq] at hx hx'
    subst hx; subst hx'
    rw [hLE z hz] at hk'
    rw [hLE z' hz'] at hk''
    have mix : ∀ {y y' : Ent}, y ∈ zs ++ ys → y' ∈ zs ++ ys → k ∈ y.o → k ∈ y'.k → False := by
      intro y y' hy hy' h1 h2
      obtain ⟨h3, h4, _⟩ := eAcc y' hy' k h2
      rcases eFrom y hy k h1 with h | h
      · omega
      · exact h3 h
    rcases (eOk z hz).accs k hk' with h1 | h1 <;> rcases (eOk z' hz').accs k hk'' with h2 | h2
    · exact flat_apart eNd hz hz' (fun e => hne (by rw [e])) k h1 h2
    · exact mix hz hz' h1 h2
    · exact mix hz' hz h2 h1
    · obtain ⟨_, _, x0, p1, p2⟩ := eAcc z hz k h1
      obtain ⟨_, _, x1, p3, p4⟩ := eAcc z' hz' k h2
      exact s.disj z.b z'.b x0 x1 hne p1 p3 k p2 p4

theorem callEff_ok (s : Sim B c sl a) {G : List Nat} {sigs : Nat → Option Sig} {pre : Nat → List D → Prop} (hsum : ∀ f sg, sigs f = some sg → SummOk P G B.env f sg (c.Γ f) (pre f)) (hG : ∀ k ∈ G, c.L.X k) (henv : B.env c.w)
    {o : Oper} {cc : Call} (ho : o.op = .call cc) {f : Nat} (hcc : cc.callee = .value (.func f)) {xs : List AV} {clean : List Nat} {rows : Bool} {dst : Nat} {sl0 : Nat → AV} (hv : AVsOk c xs (cc.args.toList.map a.eval)) {e : Eff}
    (h : (callEff sigs clean rows f dst xs).val sl0 c.hp = some e) (hn : ∀ n ∈ e.need, NeedOk pre c n) : Does P o a c e := by
  simp only [callEff, Rd.val_bind, Rd.val_opt] at h
  replace h := bind_some h; obtain ⟨sg, hsg, h⟩ := h
  replace h := bind_some h; obtain ⟨l, hl, h⟩ := h
  simp only [Rd.if_bind, Rd.val_bind, Bool.and_eq_true] at h
  obtain ⟨⟨hdis, hsok⟩, h⟩ := h
  replace h := bind_some h; obtain ⟨⟨vs, us, n⟩, htake, h⟩ := h
  replace h := bind_some h; obtain ⟨bs, hback, h⟩ := h
  simp only [Rd.if_bind, Rd.val_bind] at h
  obtain ⟨hdn, h⟩ := h
  replace h := bind_some h; obtain ⟨rs, hrs, h⟩ := h
  replace h := bind_some h; obtain ⟨val, hval, h⟩ := h
  simp only [Rd.val_pure, Option.some.injEq] at h; subst h
  obtain ⟨⟨fn, hfn, hname, hbody⟩, hcall⟩ := hsum f sg hsg
  obtain ⟨ro, M, A, hin, hlent, hbk⟩ := lend_back s hv (sigOk_top hsok) hl
  intro next Q hnext
  have hrun : (execOp a.eval o).run P c.w = .ok (.enter f (cc.args.map a.eval)) c.w := by
    have h1 : fn.name ≠ "runtime.NumGoroutine" := by simpa using hname
    have h2 : fn.body ≠ none := by
      intro h; rw [h] at hbody; simp at hbody
    simp [execOp, ho, resolve, hcc, Act.eval, Deferred.ofValue, invoke, callFunc, hfn, h1, h2]
  unfold Oper.wp
  rw [hrun, Oper.upon_enter]
  have hargs : (cc.args.toList.map a.eval).toArray = cc.args.map a.eval := by
    apply Array.ext'
    rw [Array.toList_map]
  rw [← hargs]
  refine Calls.mono (hcall c.w _ (c.dens l.es) ro M A (foreignTo c sg.hasRo A l.vs) hin hlent.nodup (fun k hk => ?_) (fun k hk => ?_) (fun k hk => ?_) (fun k hk => .inl (hG k hk)) henv (hn (.ask f l.es) (by simp))) fun en w' he => ?_
  · rcases hlent.read k hk with h | h
    · refine ⟨fun hM => ?_, fun hX => ?_⟩
      · obtain ⟨b, _, x, h1, h2⟩ := hlent.hard k hM
        exact h.1 b x h1 h2
      · rcases hX with hX | ⟨_, _, b, _, x, h1, h2⟩
        · exact h.2 hX
        · exact h.1 b x h1 h2
    · refine ⟨fun hM => src_apart s (disj_ne hdis) ((hlent.hard k hM).src s) h, fun hX => ?_⟩
      obtain ⟨b, hb, x, h1, h2⟩ := h
      rcases hX with hX | ⟨_, _, b', hb', x', h3, h4⟩
      · exact s.apart b x h1 k h2 hX
      · exact s.disj b b' x x' (fun e => hb' (e ▸ hb)) h1 h3 k h2 (hard_acc (s.blks _ _ h3) k h4)
  · rintro (hX | ⟨_, hX, _⟩)
    · obtain ⟨b, hb, x, h1, h2⟩ := hlent.own k hk
      exact s.apart b x h1 k h2 hX
    · exact hX hk
  · rcases hk with hk | ⟨_, _, b, _, x, h1, h2⟩
    · exact s.old k hk
    · exact acc_lt s h1 k (hard_acc (s.blks _ _ h1) k h2)
  · obtain ⟨v, rfl, came⟩ := he
    obtain ⟨c', rfl, heff⟩ := came_eff s (need := [Need.ask f l.es]) hsok hin hlent hbk hdis htake hback hdn hrs hval came
    exact hnext v c' heff

end
end Go.Sx
