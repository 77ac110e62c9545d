/-
  The machine, part O: what a call gives back: each name, what it turns to and where it lies.
-/
import Derived.Test.YtnglgoloeabbeaaMN
namespace Go.Sx
open Go Go.RowKit
set_option linter.unusedSimpArgs false
set_option linter.unusedVariables false

/-- What a name turns to, where that lies, what of it the call gave, what it has kept. -/
structure Ent where
  b : Nat
  x : Blk
  l : Loc
  o : List Nat
  k : List Nat

structure EntOk (c : Ctx) (w' : World) (H : List Nat) (keep : Bool) (A : List Nat) (z : Ent) : Prop where
  accs : ∀ k ∈ acc z.x z.l, k ∈ z.o ∨ k ∈ z.k
  kept : ∀ k ∈ z.k, k ∉ A ∧ ∃ x0, c.hp z.b = some x0 ∧ k ∈ acc x0 (c.L z.b)
  hard : ∀ k ∈ hard z.x z.l, k ∈ H ∨ (keep = true ∧ k ∈ z.o) ∨ (k ∈ z.k ∧ ∃ x0, c.hp z.b = some x0 ∧ k ∈ hard x0 (c.L z.b))
  gens : gen (c.hp z.b) ≤ gen (some z.x)
  row : ∀ g u' ts' e' own' clean' live', g < gen (c.hp z.b) → z.x = .row g u' ts' e' own' clean' live' →
    ∃ u e own clean live, c.hp z.b = some (.row g u ts' e own clean live) ∧ z.l.hdr = (c.L z.b).hdr ∧ z.l.blk = (c.L z.b).blk ∧ (live' = true → live = true) ∧
      (live' = true → u ≤ u' ∧ (u' = u → ∀ n j ts v, ts'[j]? = some (.sl ts) → c.cellAt z.b ts' n j v → w'.cell? ⟨(c.L z.b).blk, (match (c.L z.b).hdr with
        | .slice (some a) _ _ => a.off
        | _ => 0) + n * ts'.length + j, none⟩ = some v))
  box : ∀ g cells', g < gen (c.hp z.b) → z.x = .box g cells' → ∃ cells, c.hp z.b = some (.box g cells) ∧ z.l.blk = (c.L z.b).blk

theorem EntOk.mono {c : Ctx} {w' : World} {H H' : List Nat} {keep : Bool} {A : List Nat} {z : Ent} (h : EntOk c w' H keep A z) (hs : ∀ k ∈ H, k ∈ H') : EntOk c w' H' keep A z :=
  { h with hard := fun k hk => (h.hard k hk).imp (hs k) id }

/-- A state in which these names lie so. -/
structure Placed (c c' : Ctx) (w' : World) (zs : List Ent) : Prop where
  Γ : c'.Γ = c.Γ
  ρ : c'.ρ = c.ρ
  w : c'.w = w'
  moves : ∀ x v, AVOk c x v → AVOk c' x v
  at_ : ∀ z ∈ zs, c'.hp z.b = some z.x ∧ c'.L z.b = z.l

theorem Placed.den {c c' : Ctx} {w' : World} {zs : List Ent} (h : Placed c c' w' zs) (e : E) : c'.den e = c.den e := by unfold Ctx.den; rw [h.Γ, h.ρ]
theorem Placed.sub {c c' : Ctx} {w' : World} {zs ys : List Ent} (h : Placed c c' w' zs) (hs : ∀ z ∈ ys, z ∈ zs) : Placed c c' w' ys := ⟨h.Γ, h.ρ, h.w, h.moves, fun z hz => h.at_ z (hs z hz)⟩

section
variable {c : Ctx} {w' : World}

theorem den_call {f r : Nat} {es : List E} : c.den (.app (.call f r) es) = (c.Γ f (c.dens es)).getD r default := by
  rw [den_app]; rfl

/-- Where a slice that is owned lies. -/
def locOf (v : Value) (f : List Nat) : Loc := match v with
  | .slice (some a) _ _ => ⟨a.block, v, f.drop 1⟩
  | _ => ⟨0, v, []⟩

theorem locOf_own {w : World} {ts : List Ty} {v : Value} {d : D} {f : List Nat} (h : Rep w true (.sl ts) v d f) : (locOf v f).hdr = v ∧ (locOf v f).top = topOf v ∧ f = topOf v ++ (locOf v f).fp ∧
    ∃ l, d = .sl l ∧ ∀ c' : Ctx, c'.w = w → ∀ own live, RowOk c' ts l own live (locOf v f) := by
  cases h with
  | nil => exact ⟨rfl, rfl, rfl, [], rfl, fun c' _ own live => .inl ⟨rfl, rfl, rfl⟩⟩
  | emp h _ => exact nomatch h
  | sl h1 h2 h3 h4 h5 h6 h7 =>
    refine ⟨rfl, rfl, rfl, _, rfl, fun c' hc own live => .inr ⟨_, _, _, _, rfl, by rw [hc]; exact h1, h2, h3, h4, fun _ => by rw [hc]; exact h5 rfl, by rw [hc]; exact h6, ?_⟩⟩
    rw [hc]
    exact h7.weak fun _ => rfl

theorem locOf_top {w : World} {ts : List Ty} {v : Value} {d : D} {f : List Nat} (h : TopRep w ts v d f) : ∃ l0 : Loc, l0.hdr = v ∧ l0.top = topOf v ∧ l0.fp = f ∧
    ∃ l, d = .sl l ∧ ∀ c' : Ctx, c'.w = w → ∀ live, RowOk c' ts l false live l0 := by
  rcases h with ⟨rfl, rfl, rfl⟩ | ⟨b, o, len, cap, vs, l, rfl, rfl, h1, h2, h3, h4, h5, h6, h7⟩
  · exact ⟨⟨0, .slice none 0 0, []⟩, rfl, rfl, rfl, [], rfl, fun c' _ live => .inl ⟨rfl, rfl, rfl⟩⟩
  · refine ⟨⟨b, .slice (some ⟨b, o, none⟩) len cap, f⟩, rfl, rfl, rfl, l, rfl, fun c' hc live => .inr ⟨o, len, cap, vs, rfl, by rw [hc]; exact h1, h2, h3, h4, fun _ => by rw [hc]; exact h5, by rw [hc]; exact h6, by rw [hc]; exact h7⟩⟩

theorem topRep_ro {w : World} {ts : List Ty} {v : Value} {d : D} {f : List Nat} (h : TopRep w ts v d f) : Rep w false (.sl ts) v d (topOf v ++ f) := by
  rcases h with ⟨rfl, rfl, rfl⟩ | ⟨b, o, len, cap, vs, l, rfl, rfl, h1, h2, h3, h4, h5, h6, h7⟩
  · exact .nil
  · exact .sl h1 h2 h3 h4 (fun h => nomatch h) h6 h7

/-- A new row's entry. -/
theorem newEnt {H : List Nat} {keep : Bool} {A : List Nat} {b g u : Nat} {ts : List Ty} {e : E} {own clean : Bool} {l : Loc} {o : List Nat} (hg : gen (c.hp b) ≤ g) (hacc : ∀ k ∈ l.top ++ (if own then l.fp else []), k ∈ o) (hH : ∀ k ∈ l.top, k ∈ H) (hc : clean = true → keep = true ∧ own = true) :
    EntOk c w' H keep A ⟨b, .row g u ts e own clean true, l, o, []⟩ where
  accs := fun k hk => .inl (hacc k hk)
  kept := fun _ h => nomatch h
  hard := fun k hk => by
    simp only [Sx.hard] at hk
    rcases List.mem_append.1 hk with hk | hk
    · exact .inl (hH k hk)
    · split at hk
      · rename_i h
        obtain ⟨h1, h2⟩ := hc h
        exact .inr (.inl ⟨h1, hacc k (by rw [if_pos h2]; exact List.mem_append_right _ hk)⟩)
      · exact nomatch hk
  gens := by show gen (c.hp b) ≤ g + 1; omega
  row := fun g2 _ _ _ _ _ _ hg2 h => by
    simp only [Blk.row.injEq] at h
    simp only at hg2
    omega
  box := fun _ _ _ h => by simp at h

theorem sc_fp {w : World} {ow : Bool} {t : Ty} {v : Value} {d : D} {f : List Nat} (h : Rep w ow t v d f) (hs : isSl t = false) : f = [] := (rep_own h hs).2

/-- The cells that come back, of one result or of a new box. -/
theorem takeRes_ok {f dst : Nat} {es : List E} {clean rows keep : Bool} (hck : clean = true → keep = true) {sl0 : Nat → AV} {A : List Nat} :
    ∀ {ts : List (Ty × Rm)} {vals : List Value} {ds : List D} {H O R : List Nat} {r : Nat} {q : List AV × List (Nat × Blk)}, CellsOut w' ts vals ds H O R → (∀ x ∈ ts, x.2 ≠ .kept) → (takeRes f es dst clean rows r ts).val sl0 c.hp = some q →
      (∀ i, i < ds.length → (c.Γ f (c.dens es)).getD (r + i) default = ds.getD i default) →
      ∃ zs : List Ent, zs.map (fun z => (z.b, z.x)) = q.2 ∧ (zs.map Ent.o).flatten.Sublist O ∧ (∀ z ∈ zs, EntOk c w' H keep A z ∧ z.k = []) ∧
        ∀ c', Placed c c' w' zs → O.Nodup → (∀ k ∈ R, Perm c'.hp c'.L k) → (rows = false → ∀ k ∈ O, Perm c'.hp c'.L k) → AVsOk c' q.1 vals ∧ ∀ z ∈ zs, BlkOk c' z.x z.l
  | [], vals, ds, H, O, R, r, q, hc, hkp, h, hΓ => by
    cases hc
    simp [takeRes] at h; subst h
    exact ⟨[], rfl, by simp, (fun _ h => nomatch h), fun c' _ _ _ _ => ⟨trivial, fun _ h => nomatch h⟩⟩
  | (t, m) :: ts, vals, ds, H, O, R, r, q, hc, hkp, h, hΓ => by
    have hkp' : ∀ x ∈ ts, x.2 ≠ .kept := fun x hx => hkp x (List.mem_cons_of_mem _ hx)
    have tail : ∀ {d : D} {ds' : List D}, ds = d :: ds' → (c.Γ f (c.dens es)).getD r default = d ∧ ∀ i, i < ds'.length → (c.Γ f (c.dens es)).getD (r + 1 + i) default = ds'.getD i default := by
      intro d ds' e
      subst e
      refine ⟨by simpa using hΓ 0 (by simp), fun i hi => ?_⟩
      have := hΓ (i + 1) (by simpa using hi)
      rw [show r + 1 + i = r + (i + 1) from by omega, this]
      simp
    -- a cell that is not taken as a row
    have plain : ∀ {x : AV} {q : List AV × List (Nat × Blk)} {v : Value} {vs : List Value} {d : D} {ds' : List D} {H' O' R' Hf Of Rf : List Nat}, vals = v :: vs → ds = d :: ds' → CellsOut w' ts vs ds' H' O' R' → H = Hf ++ H' → O = Of ++ O' → R = Rf ++ R' →
        ((takeRes f es dst clean rows (r + 1) ts >>= fun p => Rd.pure (x :: p.1, p.2)).val sl0 c.hp = some q) →
        (∀ c', Placed c c' w' [] → (∀ k ∈ Rf, Perm c'.hp c'.L k) → (rows = false → ∀ k ∈ Of, Perm c'.hp c'.L k) → AVOk c' x v) →
        ∃ zs : List Ent, zs.map (fun z => (z.b, z.x)) = q.2 ∧ (zs.map Ent.o).flatten.Sublist O ∧ (∀ z ∈ zs, EntOk c w' H keep A z ∧ z.k = []) ∧
          ∀ c', Placed c c' w' zs → O.Nodup → (∀ k ∈ R, Perm c'.hp c'.L k) → (rows = false → ∀ k ∈ O, Perm c'.hp c'.L k) → AVsOk c' q.1 vals ∧ ∀ z ∈ zs, BlkOk c' z.x z.l := by
      intro x q v vs d ds' H' O' R' Hf Of Rf e1 e2 hc' e3 e4 e5 h hx
      subst e1; subst e3; subst e4; subst e5
      simp only [Rd.val_bind] at h
      replace h := bind_some h; obtain ⟨⟨ws, us⟩, h1, h⟩ := h
      simp at h; subst h
      obtain ⟨zs, z1, z2, z3, z4⟩ := takeRes_ok hck hc' hkp' h1 (tail e2).2
      refine ⟨zs, z1, z2.trans (List.sublist_append_right _ _), fun z hz => ⟨(z3 z hz).1.mono fun k hk => List.mem_append_right _ hk, (z3 z hz).2⟩, fun c' hp hn hR hO => ?_⟩
      obtain ⟨k1, k2⟩ := z4 c' hp (List.nodup_append.1 hn).2.1 (fun k hk => hR k (List.mem_append_right _ hk)) fun h k hk => hO h k (List.mem_append_right _ hk)
      exact ⟨⟨hx c' (hp.sub fun _ h => nomatch h) (fun k hk => hR k (List.mem_append_left _ hk)) fun h k hk => hO h k (List.mem_append_left _ hk), k1⟩, k2⟩
    -- one that is
    have row : ∀ {t0 : List Ty} {q : List AV × List (Nat × Blk)} {v : Value} {vs : List Value} {d : D} {ds' : List D} {H' O' R' Of Rf : List Nat} {own : Bool} {l0 : Loc}, vals = v :: vs → ds = d :: ds' → CellsOut w' ts vs ds' H' O' R' → H = topOf v ++ H' → O = Of ++ O' → R = Rf ++ R' → slV v →
        l0.hdr = v → l0.top = topOf v → (own = true → Of = l0.top ++ l0.fp) → (own = false → Of = l0.top ∧ ∀ k ∈ l0.fp, k ∈ Rf) → (∃ l, d = .sl l ∧ ∀ c' : Ctx, c'.w = w' → RowOk c' t0 l own true l0) →
        ((rdBlk (nm dst r) >>= fun o => takeRes f es dst clean rows (r + 1) ts >>= fun p => Rd.pure (AV.row (nm dst r) (gen o) :: p.1, (nm dst r, Blk.row (gen o) 0 t0 (.app (.call f r) es) own (clean && own) true) :: p.2)).val sl0 c.hp = some q) →
        ∃ zs : List Ent, zs.map (fun z => (z.b, z.x)) = q.2 ∧ (zs.map Ent.o).flatten.Sublist O ∧ (∀ z ∈ zs, EntOk c w' H keep A z ∧ z.k = []) ∧
          ∀ c', Placed c c' w' zs → O.Nodup → (∀ k ∈ R, Perm c'.hp c'.L k) → (rows = false → ∀ k ∈ O, Perm c'.hp c'.L k) → AVsOk c' q.1 vals ∧ ∀ z ∈ zs, BlkOk c' z.x z.l := by
      intro t0 q v vs d ds' H' O' R' Of Rf own l0 e1 e2 hc' e3 e4 e5 hsl k1 k2 k3 k4 k5 h
      subst e1; subst e3; subst e4; subst e5
      simp only [Rd.val_bind, Rd.val_blk, Option.bind_some] at h
      replace h := bind_some h; obtain ⟨⟨ws, us⟩, h1, h⟩ := h
      simp at h; subst h
      obtain ⟨hd0, hd1⟩ := tail e2
      obtain ⟨zs, z1, z2, z3, z4⟩ := takeRes_ok hck hc' hkp' h1 hd1
      have hacc : ∀ k ∈ l0.top ++ (if own then l0.fp else []), k ∈ Of := by
        intro k hk
        cases own with
        | true => rw [k3 rfl]; exact hk
        | false => rw [(k4 rfl).1]; simpa using hk
      have hent : EntOk c w' (topOf v ++ H') keep A ⟨nm dst r, .row (gen (c.hp (nm dst r))) 0 t0 (.app (.call f r) es) own (clean && own) true, l0, Of, []⟩ :=
        newEnt (Nat.le_refl _) hacc (fun k hk => List.mem_append_left _ (by rw [← k2]; exact hk)) fun h => by
          simp only [Bool.and_eq_true] at h
          exact ⟨hck h.1, h.2⟩
      refine ⟨⟨nm dst r, .row (gen (c.hp (nm dst r))) 0 t0 (.app (.call f r) es) own (clean && own) true, l0, Of, []⟩ :: zs, by simp [z1], ?_, fun z hz => ?_, fun c' hp hn hR hO => ?_⟩
      · simp only [List.map_cons, List.flatten_cons]
        exact List.Sublist.append (List.Sublist.refl _) z2
      · rcases List.mem_cons.1 hz with rfl | hz
        · exact ⟨hent, rfl⟩
        · exact ⟨(z3 z hz).1.mono fun k hk => List.mem_append_right _ hk, (z3 z hz).2⟩
      · obtain ⟨y1, y2⟩ := z4 c' (hp.sub fun z hz => List.mem_cons_of_mem _ hz) (List.nodup_append.1 hn).2.1 (fun k hk => hR k (List.mem_append_right _ hk)) fun h k hk => hO h k (List.mem_append_right _ hk)
        obtain ⟨p1, p2⟩ := hp.at_ _ (List.mem_cons_self ..)
        simp only at p1 p2
        obtain ⟨l, rfl, hrow⟩ := k5
        refine ⟨⟨⟨hsl, ?_, fun u ts' e' own' clean' live' hx => ?_⟩, y1⟩, fun z hz => ?_⟩
        · rw [p1]; simp [gen]
        · rw [p2, k1]
        · rcases List.mem_cons.1 hz with rfl | hz
          · refine ⟨⟨l, by rw [hp.den, den_call]; exact hd0, hrow c' hp.w⟩, (fun h => nomatch h), fun _ ho k hk => ?_, fun _ ho => ?_, fun h => ?_⟩
            · exact hR k (List.mem_append_left _ ((k4 ho).2 k hk))
            · have := (List.nodup_append.1 hn).1
              rw [k3 ho] at this
              exact this
            · simp only [Bool.and_eq_true] at h
              exact h.2
          · exact y2 z hz
    cases hc with
    | kept _ => exact absurd rfl (hkp _ (List.mem_cons_self ..))
    | ro hm hr hc' =>
      rename_i v vs d ds' fp R'
      cases t with
      | sl t0 =>
        have hm' : m = .ro := by
          rcases hm with h | h
          · simp [isSl] at h
          · exact h
        subst hm'
        simp only [takeRes, decide_true, Bool.or_true, if_true] at h
        refine plain (Hf := []) (Of := []) rfl rfl hc' rfl rfl rfl h fun c' hp hR _ => ⟨fp, ?_, hR⟩
        rw [hp.w, hp.den, den_call, (tail rfl).1]
        exact hr
      | int k => exact plain (Hf := []) (Of := []) rfl rfl hc' rfl rfl rfl h fun c' hp hR _ => ⟨rfl, by rw [hp.w, hp.den, den_call, (tail rfl).1]; rw [sc_fp hr rfl] at hr; exact hr⟩
      | bool => exact plain (Hf := []) (Of := []) rfl rfl hc' rfl rfl rfl h fun c' hp hR _ => ⟨rfl, by rw [hp.w, hp.den, den_call, (tail rfl).1]; rw [sc_fp hr rfl] at hr; exact hr⟩
      | str => exact plain (Hf := []) (Of := []) rfl rfl hc' rfl rfl rfl h fun c' hp hR _ => ⟨rfl, by rw [hp.w, hp.den, den_call, (tail rfl).1]; rw [sc_fp hr rfl] at hr; exact hr⟩
      | err => exact plain (Hf := []) (Of := []) rfl rfl hc' rfl rfl rfl h fun c' hp hR _ => ⟨rfl, by rw [hp.w, hp.den, den_call, (tail rfl).1]; rw [sc_fp hr rfl] at hr; exact hr⟩
    | own hr hc' =>
      rename_i t0 v vs d ds' fp H' O'
      obtain ⟨p0, k0, e0, _⟩ := rep_slice hr
      cases rows with
      | false =>
        simp only [takeRes, Bool.not_false, Bool.true_or, if_true] at h
        refine plain (Rf := []) rfl rfl hc' rfl rfl rfl h fun c' hp _ hO => ⟨fp, ?_, hO rfl⟩
        rw [hp.w, hp.den, den_call, (tail rfl).1]
        exact hr.ro
      | true =>
        simp only [takeRes] at h
        rw [if_neg (by simp)] at h
        obtain ⟨l1, l2, l3, l, l4, l5⟩ := locOf_own hr
        refine row (Rf := []) (own := true) (l0 := locOf v fp) rfl rfl hc' rfl rfl rfl ⟨_, _, _, e0⟩ l1 l2 (fun _ => by rw [l2]; exact l3) (fun h => nomatch h) ⟨l, l4, fun c' hw => l5 c' hw true true⟩ ?_
        simpa using h
    | top hr hc' =>
      rename_i t0 v vs d ds' fp H' O' R'
      obtain ⟨p0, k0, e0, _⟩ := rep_slice (topRep_ro hr)
      cases rows with
      | false =>
        simp only [takeRes, Bool.not_false, Bool.true_or, if_true] at h
        refine plain rfl rfl hc' rfl rfl rfl h fun c' hp hR hO => ⟨topOf v ++ fp, ?_, fun k hk => ?_⟩
        · rw [hp.w, hp.den, den_call, (tail rfl).1]
          exact topRep_ro hr
        · rcases List.mem_append.1 hk with hk | hk
          · exact hO rfl k hk
          · exact hR k hk
      | true =>
        simp only [takeRes] at h
        rw [if_neg (by simp)] at h
        obtain ⟨l0, l1, l2, l3, l, l4, l5⟩ := locOf_top hr
        refine row (own := false) (l0 := l0) rfl rfl hc' rfl rfl rfl ⟨_, _, _, e0⟩ l1 l2 (fun h => nomatch h) (fun _ => ⟨l2.symm, fun k hk => by rw [← l3]; exact hk⟩) ⟨l, l4, fun c' hw => l5 c' hw true⟩ ?_
        simpa using h

theorem CellsOut.len {w : World} : ∀ {ts : List (Ty × Rm)} {vs : List Value} {ds : List D} {H O R : List Nat}, CellsOut w ts vs ds H O R → ds.length = ts.length ∧ vs.length = ts.length
  | _, _, _, _, _, _, .nil => ⟨rfl, rfl⟩
  | _, _, _, _, _, _, .ro _ _ h => by simp [h.len]
  | _, _, _, _, _, _, .own _ h => by simp [h.len]
  | _, _, _, _, _, _, .top _ h => by simp [h.len]
  | _, _, _, _, _, _, .kept h => by simp [h.len]

/-- What one state must be like for the names of a call to hold in it. -/
def GoodAt (c : Ctx) (w' : World) (rows : Bool) (zs : List Ent) (O R : List Nat) (K : Ctx → Prop) : Prop :=
  ∀ c', Placed c c' w' zs → O.Nodup → (∀ k ∈ R, Perm c'.hp c'.L k) → (rows = false → ∀ k ∈ O, Perm c'.hp c'.L k) → K c' ∧ ∀ z ∈ zs, BlkOk c' z.x z.l

theorem GoodAt.append {rows : Bool} {zs ys : List Ent} {O O' R R' : List Nat} {K K' : Ctx → Prop} (h : GoodAt c w' rows zs O R K) (h' : GoodAt c w' rows ys O' R' K') : GoodAt c w' rows (zs ++ ys) (O ++ O') (R ++ R') fun c' => K c' ∧ K' c' := by
  intro c' hp hn hR hO
  obtain ⟨n1, n2, _⟩ := List.nodup_append.1 hn
  obtain ⟨a1, a2⟩ := h c' (hp.sub fun z hz => List.mem_append_left _ hz) n1 (fun k hk => hR k (List.mem_append_left _ hk)) fun h k hk => hO h k (List.mem_append_left _ hk)
  obtain ⟨b1, b2⟩ := h' c' (hp.sub fun z hz => List.mem_append_right _ hz) n2 (fun k hk => hR k (List.mem_append_right _ hk)) fun h k hk => hO h k (List.mem_append_right _ hk)
  refine ⟨⟨a1, b1⟩, fun z hz => ?_⟩
  rcases List.mem_append.1 hz with hz | hz
  · exact a2 z hz
  · exact b2 z hz

theorem GoodAt.imp {rows : Bool} {zs : List Ent} {O R : List Nat} {K K' : Ctx → Prop} (h : GoodAt c w' rows zs O R K) (hk : ∀ c', c'.Γ = c.Γ → c'.ρ = c.ρ → c'.w = w' → K c' → K' c') : GoodAt c w' rows zs O R K' := by
  intro c' hp hn hR hO
  obtain ⟨a1, a2⟩ := h c' hp hn hR hO
  exact ⟨hk c' hp.Γ hp.ρ hp.w a1, a2⟩

theorem takeAll_ok {f dst : Nat} {es : List E} {clean rows keep : Bool} (hck : clean = true → keep = true) {sl0 : Nat → AV} {A : List Nat} :
    ∀ {ks : List RK} {vs : List Value} {ds : List D} {H O R : List Nat} {r : Nat} {q : List AV × List (Nat × Blk) × Nat}, ResOut w' ks vs ds H O R → (∀ k ∈ ks, ∀ x ∈ k.ts, x.2 ≠ .kept) → (takeAll f es dst clean rows r ks).val sl0 c.hp = some q →
      (∀ i, i < ds.length → (c.Γ f (c.dens es)).getD (r + i) default = ds.getD i default) →
      q.2.2 = r + ds.length ∧ ∃ zs : List Ent, zs.map (fun z => (z.b, z.x)) = q.2.1 ∧ (zs.map Ent.o).flatten.Sublist O ∧ (∀ z ∈ zs, EntOk c w' H keep A z ∧ z.k = []) ∧ GoodAt c w' rows zs O R fun c' => AVsOk c' q.1 vs
  | [], vs, ds, H, O, R, r, q, hc, hkp, h, hΓ => by
    cases hc
    simp [takeAll] at h; subst h
    exact ⟨rfl, [], rfl, by simp, (fun _ h => nomatch h), fun c' _ _ _ _ => ⟨trivial, fun _ h => nomatch h⟩⟩
  | k :: ks, vs, ds, H, O, R, r, q, hc, hkp, h, hΓ => by
    have hkp' : ∀ k ∈ ks, ∀ x ∈ k.ts, x.2 ≠ .kept := fun k hk => hkp k (List.mem_cons_of_mem _ hk)
    have hkp0 := hkp k (List.mem_cons_self ..)
    simp only [takeAll, Rd.val_bind] at h
    replace h := bind_some h; obtain ⟨⟨xs, us⟩, h1, h⟩ := h
    cases hc with
    | val hsh hv hcs hres =>
      rename_i ts sh v vs cs ds ds' H H' O O' R R'
      have h2 : ∃ x q', wrapAgg (decide (sh = .agg)) xs = some x ∧ (takeAll f es dst clean rows (r + ts.length) ks).val sl0 c.hp = some q' ∧ q = (x :: q'.1, us ++ q'.2.1, q'.2.2) := by
        cases sh with
        | ptr => exact absurd rfl hsh
        | one =>
          simp only [Rd.val_bind, Rd.val_opt] at h
          replace h := bind_some h; obtain ⟨x, h2, h⟩ := h
          replace h := bind_some h; obtain ⟨⟨ws, us', n⟩, h3, h⟩ := h
          simp at h
          exact ⟨x, (ws, us', n), h2, h3, h.symm⟩
        | agg =>
          simp only [Rd.val_bind, Rd.val_opt] at h
          replace h := bind_some h; obtain ⟨x, h2, h⟩ := h
          replace h := bind_some h; obtain ⟨⟨ws, us', n⟩, h3, h⟩ := h
          simp at h
          exact ⟨x, (ws, us', n), h2, h3, h.symm⟩
      obtain ⟨x, q', hx, hq', rfl⟩ := h2
      have hlen := hcs.len
      obtain ⟨zs, z1, z2, z3, z4⟩ := takeRes_ok hck hcs hkp0 h1 (fun i hi => by
        rw [hΓ i (by rw [List.length_append]; omega), List.getD_eq_getElem?_getD, List.getElem?_append_left hi, ← List.getD_eq_getElem?_getD])
      obtain ⟨n1, ys, y1, y2, y3, y4⟩ := takeAll_ok hck hres hkp' hq' (fun i hi => by
        have := hΓ (ts.length + i) (by rw [List.length_append]; omega)
        rw [← Nat.add_assoc] at this
        rw [this, List.getD_eq_getElem?_getD, List.getElem?_append_right (by omega), hlen.1, Nat.add_sub_cancel_left, ← List.getD_eq_getElem?_getD])
      refine ⟨by simp only [n1, List.length_append, hlen.1]; omega, zs ++ ys, by simp [z1, y1], ?_, fun z hz => ?_, ?_⟩
      · rw [List.map_append, List.flatten_append]
        exact List.Sublist.append z2 y2
      · rcases List.mem_append.1 hz with hz | hz
        · exact ⟨(z3 z hz).1.mono fun k hk => List.mem_append_left _ hk, (z3 z hz).2⟩
        · exact ⟨(y3 z hz).1.mono fun k hk => List.mem_append_right _ hk, (y3 z hz).2⟩
      · refine (GoodAt.append z4 y4).imp fun c' _ _ _ hk => ⟨?_, hk.2⟩
        have := (wrapAgg_ok hx hk.1).1
        unfold argVal at hv
        split at hv
        · rename_i ha
          rw [ha] at this
          rw [hv]
          exact this
        · rename_i ha
          have ha' : decide (sh = .agg) = false := by simpa using ha
          rw [ha'] at this
          rw [hv] at this
          exact this
    | ptr hb hcs hres =>
      rename_i ts b T vs cs ds ds' H H' O O' R R'
      simp only [Rd.val_bind, Rd.val_blk, Option.bind_some] at h
      replace h := bind_some h; obtain ⟨⟨ws, us', n⟩, hq', h⟩ := h
      simp only [Rd.if_bind, Bool.and_eq_true, decide_eq_true_eq] at h
      obtain ⟨_, h⟩ := h
      simp at h; subst h
      have hlen := hcs.len
      obtain ⟨zs, z1, z2, z3, z4⟩ := takeRes_ok hck hcs hkp0 h1 (fun i hi => by
        rw [hΓ i (by rw [List.length_append]; omega), List.getD_eq_getElem?_getD, List.getElem?_append_left hi, ← List.getD_eq_getElem?_getD])
      obtain ⟨n1, ys, y1, y2, y3, y4⟩ := takeAll_ok hck hres hkp' hq' (fun i hi => by
        have := hΓ (ts.length + i) (by rw [List.length_append]; omega)
        rw [← Nat.add_assoc] at this
        rw [this, List.getD_eq_getElem?_getD, List.getElem?_append_right (by omega), hlen.1, Nat.add_sub_cancel_left, ← List.getD_eq_getElem?_getD])
      have hbox : EntOk c w' (b :: (H ++ H')) keep A ⟨nm dst 63, .box (gen (c.hp (nm dst 63))) xs, ⟨b, .nilIface, []⟩, [b], []⟩ := {
        accs := fun k hk => .inl hk
        kept := fun _ h => nomatch h
        hard := fun k hk => .inl (by rw [List.mem_singleton.1 hk]; exact List.mem_cons_self ..)
        gens := by simp [gen]
        row := fun _ _ _ _ _ _ _ _ h => by simp at h
        box := fun g cells hg h => by
          simp only [Blk.box.injEq] at h
          exact (gen_le_lt hg h.1.symm).elim }
      refine ⟨by simp only at n1; simp only [n1, List.length_append, hlen.1]; omega, ⟨nm dst 63, .box (gen (c.hp (nm dst 63))) xs, ⟨b, .nilIface, []⟩, [b], []⟩ :: (zs ++ ys), by simp [z1, y1], ?_, fun z hz => ?_, ?_⟩
      · rw [List.map_cons, List.flatten_cons, List.map_append, List.flatten_append]
        exact (List.Sublist.append z2 y2).cons_cons b
      · rcases List.mem_cons.1 hz with rfl | hz
        · exact ⟨hbox, rfl⟩
        · rcases List.mem_append.1 hz with hz | hz
          · exact ⟨(z3 z hz).1.mono fun k hk => List.mem_cons_of_mem _ (List.mem_append_left _ hk), (z3 z hz).2⟩
          · exact ⟨(y3 z hz).1.mono fun k hk => List.mem_cons_of_mem _ (List.mem_append_right _ hk), (y3 z hz).2⟩
      · intro c' hp hn hR hO
        obtain ⟨a1, a2⟩ := GoodAt.append z4 y4 c' (hp.sub fun z hz => List.mem_cons_of_mem _ hz) (List.nodup_cons.1 hn).2 hR fun h k hk => hO h k (List.mem_cons_of_mem _ hk)
        obtain ⟨p1, p2⟩ := hp.at_ _ (List.mem_cons_self ..)
        simp only at p1 p2
        refine ⟨⟨⟨⟨_, _, rfl⟩, by rw [p1]; simp [gen], fun cells' _ => by rw [p2]⟩, a1.2⟩, fun z hz => ?_⟩
        rcases List.mem_cons.1 hz with rfl | hz
        · exact ⟨cs, T, by rw [hp.w]; exact hb, a1.1⟩
        · exact a2 z hz

theorem row_slV {b g : Nat} {v : Value} (h : AVOk c (.row b g) v) : slV v := h.1

/-- The cells of a box, as the call leaves them. -/
theorem backBox_ok {f dst : Nat} {es : List E} {keep : Bool} {sl0 sl1 : Nat → AV} {A : List Nat} :
    ∀ {ts : List (Ty × Rm)} {xs : List AV} {l : Lent} {cs olds : List Value} {ds : List D} {H O R : List Nat} {r : Nat} {q : List AV × List (Nat × Blk)}, (lendBox ts xs).val sl0 c.hp = some l → CellsOut w' ts cs ds H O R →
      (∀ x ∈ ts, x.2 ≠ .top) → AVsOk c xs olds → (∀ (j : Nat) (t : List Ty), ts[j]? = some (Ty.sl t, Rm.kept) → cs[j]? = olds[j]?) → (backBox f es dst keep r ts xs).val sl1 c.hp = some q → (∀ i, i < ds.length → (c.Γ f (c.dens es)).getD (r + i) default = ds.getD i default) →
      ∃ zs : List Ent, zs.map (fun z => (z.b, z.x)) = q.2 ∧ (zs.map Ent.o).flatten.Sublist O ∧ (∀ z ∈ zs, EntOk c w' H keep A z ∧ z.k = []) ∧ (∀ b ∈ l.bs, ∃ z ∈ zs, z.b = b) ∧ GoodAt c w' true zs O R fun c' => AVsOk c' q.1 cs
  | [], xs, l, cs, olds, ds, H, O, R, r, q, hl, hc, ht, hav, hke, h, hΓ => by
    cases xs with
    | cons => simp [lendBox] at hl
    | nil =>
      simp [lendBox] at hl; subst hl
      cases hc
      simp [backBox] at h; subst h
      exact ⟨[], rfl, by simp, (fun _ h => nomatch h), (fun _ h => nomatch h), fun c' _ _ _ _ => ⟨trivial, fun _ h => nomatch h⟩⟩
  | (t, m) :: ts, xs, l, cs, olds, ds, H, O, R, r, q, hl, hc, ht, hav, hke, h, hΓ => by
    cases xs with
    | nil => cases t <;> cases m <;> simp [lendBox] at hl
    | cons x xs =>
     cases olds with
     | nil => exact hav.elim
     | cons old olds =>
      have hke' : ∀ {v : Value} {cs' : List Value}, cs = v :: cs' → ∀ (j : Nat) (t : List Ty), ts[j]? = some (Ty.sl t, Rm.kept) → cs'[j]? = olds[j]? := fun e j t0 hj => by
        subst e
        have := hke (j + 1) t0 (by simpa using hj)
        simpa using this
      have tail : ∀ {d : D} {ds' : List D}, ds = d :: ds' → (c.Γ f (c.dens es)).getD r default = d ∧ ∀ i, i < ds'.length → (c.Γ f (c.dens es)).getD (r + 1 + i) default = ds'.getD i default := by
        intro d ds' e
        subst e
        refine ⟨by simpa using hΓ 0 (by simp), fun i hi => ?_⟩
        have := hΓ (i + 1) (by simpa using hi)
        rw [show r + 1 + i = r + (i + 1) from by omega, this]
        simp
      have ht' : ∀ x ∈ ts, x.2 ≠ .top := fun x hx => ht x (List.mem_cons_of_mem _ hx)
      have plain : ∀ {y : AV} {v : Value} {cs' : List Value} {d : D} {ds' : List D} {fp R' : List Nat}, cs = v :: cs' → ds = d :: ds' → R = fp ++ R' → CellsOut w' ts cs' ds' H O R' →
          ((lendBox ts xs >>= fun l => viewCell t x >>= fun e => x.names >>= fun ns => l.cons e [] ns true).val sl0 c.hp = some l) →
          ((backBox f es dst keep (r + 1) ts xs >>= fun p => Rd.pure (y :: p.1, p.2)).val sl1 c.hp = some q) → (∀ c', Placed c c' w' [] → (∀ k ∈ fp, Perm c'.hp c'.L k) → AVOk c' y v) →
          ∃ zs : List Ent, zs.map (fun z => (z.b, z.x)) = q.2 ∧ (zs.map Ent.o).flatten.Sublist O ∧ (∀ z ∈ zs, EntOk c w' H keep A z ∧ z.k = []) ∧ (∀ b ∈ l.bs, ∃ z ∈ zs, z.b = b) ∧ GoodAt c w' true zs O R fun c' => AVsOk c' q.1 cs := by
        intro y v cs' d ds' fp R' e1 e2 e3 hc' hl h hy
        subst e1; subst e3
        simp only [Rd.val_bind] at hl h
        replace hl := bind_some hl; obtain ⟨l1, l2, hl⟩ := hl
        replace hl := bind_some hl; obtain ⟨_, _, hl⟩ := hl
        replace hl := bind_some hl; obtain ⟨_, _, hl⟩ := hl
        obtain ⟨_, rfl⟩ := cons_val hl
        replace h := bind_some h; obtain ⟨⟨ws, us⟩, h1, h⟩ := h
        simp at h; subst h
        obtain ⟨zs, z1, z2, z3, z4, z5⟩ := backBox_ok l2 hc' ht' hav.2 (hke' rfl) h1 (tail e2).2
        refine ⟨zs, z1, z2, z3, by simpa using z4, fun c' hp hn hR hO => ?_⟩
        obtain ⟨a1, a2⟩ := z5 c' hp hn (fun k hk => hR k (List.mem_append_right _ hk)) (fun h => nomatch h)
        exact ⟨⟨hy c' (hp.sub fun _ h => nomatch h) fun k hk => hR k (List.mem_append_left _ hk), a1⟩, a2⟩
      cases hc with
      | top hr hc' => exact absurd rfl (ht _ (List.mem_cons_self ..))
      | kept hc' =>
        rename_i t0 v vs d ds'
        refine plain (y := x) (fp := []) rfl rfl rfl hc' hl h fun c' hp hR => ?_
        have := hke 0 t0 (by simp)
        simp only [List.getElem?_cons_zero, Option.some.injEq] at this
        rw [this]
        exact hp.moves x old hav.1
      | ro hm hr hc' =>
        rename_i v vs d ds' fp R'
        cases t with
        | sl t0 =>
          have hm' : m = .ro := by
            rcases hm with h | h
            · simp [isSl] at h
            · exact h
          subst hm'
          refine plain rfl rfl rfl hc' hl h fun c' hp hR => ⟨fp, ?_, hR⟩
          rw [hp.w, hp.den, den_call, (tail rfl).1]
          exact hr
        | int k => exact plain (y := .sc (.int k) (.app (.call f r) es)) rfl rfl rfl hc' (by cases m <;> exact hl) (by cases m <;> exact h) fun c' hp hR => ⟨rfl, by rw [hp.w, hp.den, den_call, (tail rfl).1]; rw [sc_fp hr rfl] at hr; exact hr⟩
        | bool => exact plain (y := .sc .bool (.app (.call f r) es)) rfl rfl rfl hc' (by cases m <;> exact hl) (by cases m <;> exact h) fun c' hp hR => ⟨rfl, by rw [hp.w, hp.den, den_call, (tail rfl).1]; rw [sc_fp hr rfl] at hr; exact hr⟩
        | str => exact plain (y := .sc .str (.app (.call f r) es)) rfl rfl rfl hc' (by cases m <;> exact hl) (by cases m <;> exact h) fun c' hp hR => ⟨rfl, by rw [hp.w, hp.den, den_call, (tail rfl).1]; rw [sc_fp hr rfl] at hr; exact hr⟩
        | err => exact plain (y := .sc .err (.app (.call f r) es)) rfl rfl rfl hc' (by cases m <;> exact hl) (by cases m <;> exact h) fun c' hp hR => ⟨rfl, by rw [hp.w, hp.den, den_call, (tail rfl).1]; rw [sc_fp hr rfl] at hr; exact hr⟩
      | own hr hc' =>
        rename_i t0 v vs d ds' fp H' O'
        obtain ⟨p0, k0, e0, _⟩ := rep_slice hr
        obtain ⟨y1, y2, y3, ll, y4, y5⟩ := locOf_own hr
        simp only [lendBox, Rd.val_bind] at hl
        replace hl := bind_some hl; obtain ⟨l1, l2, hl⟩ := hl
        replace hl := bind_some hl; obtain ⟨⟨e1, bs1, hd1⟩, l3, hl⟩ := hl
        obtain ⟨_, rfl⟩ := cons_val hl
        simp only [backBox, Rd.val_bind] at h
        replace h := bind_some h; obtain ⟨⟨ws, us⟩, h1, h⟩ := h
        obtain ⟨zs, z1, z2, z3, z4, z5⟩ := backBox_ok l2 hc' ht' hav.2 (hke' rfl) h1 (tail rfl).2
        -- one entry more
        have more : ∀ {b g u : Nat} {cl : Bool}, gen (c.hp b) ≤ g → (cl = true → keep = true) → bs1 = [b] ∨ bs1 = [] → q = (.row b g :: ws, (b, .row g u t0 (.app (.call f r) es) true cl true) :: us) →
            ∃ zs : List Ent, zs.map (fun z => (z.b, z.x)) = q.2 ∧ (zs.map Ent.o).flatten.Sublist (fp ++ O') ∧ (∀ z ∈ zs, EntOk c w' (topOf v ++ H') keep A z ∧ z.k = []) ∧ (∀ b ∈ bs1 ++ l1.bs, ∃ z ∈ zs, z.b = b) ∧ GoodAt c w' true zs (fp ++ O') R fun c' => AVsOk c' q.1 (v :: vs) := by
          intro b g u cl hg hck hbs hq
          subst hq
          have hent : EntOk c w' (topOf v ++ H') keep A ⟨b, .row g u t0 (.app (.call f r) es) true cl true, locOf v fp, fp, []⟩ :=
            newEnt hg (fun k hk => by rw [y3, ← y2]; simpa using hk) (fun k hk => List.mem_append_left _ (by rw [← y2]; exact hk)) fun h => ⟨hck h, rfl⟩
          refine ⟨⟨b, .row g u t0 (.app (.call f r) es) true cl true, locOf v fp, fp, []⟩ :: zs, by simp [z1], ?_, fun z hz => ?_, fun b' hb' => ?_, fun c' hp hn hR hO => ?_⟩
          · rw [List.map_cons, List.flatten_cons]
            exact List.Sublist.append (List.Sublist.refl _) z2
          · rcases List.mem_cons.1 hz with rfl | hz
            · exact ⟨hent, rfl⟩
            · exact ⟨(z3 z hz).1.mono fun k hk => List.mem_append_right _ hk, (z3 z hz).2⟩
          · rcases List.mem_append.1 hb' with hb' | hb'
            · rcases hbs with h | h
              · rw [h] at hb'
                exact ⟨_, List.mem_cons_self .., (List.mem_singleton.1 hb').symm⟩
              · rw [h] at hb'; exact nomatch hb'
            · obtain ⟨z, hz, e⟩ := z4 b' hb'
              exact ⟨z, List.mem_cons_of_mem _ hz, e⟩
          · obtain ⟨a1, a2⟩ := z5 c' (hp.sub fun z hz => List.mem_cons_of_mem _ hz) (List.nodup_append.1 hn).2.1 hR (fun h => nomatch h)
            obtain ⟨p1, p2⟩ := hp.at_ _ (List.mem_cons_self ..)
            simp only at p1 p2
            refine ⟨⟨⟨⟨_, _, _, e0⟩, by rw [p1]; simp [gen], fun u ts' e' own' clean' live' hx => by rw [p2, y1]⟩, a1⟩, fun z hz => ?_⟩
            rcases List.mem_cons.1 hz with rfl | hz
            · refine ⟨⟨ll, by rw [hp.den, den_call, (tail rfl).1]; exact y4, y5 c' hp.w true true⟩, (fun h => nomatch h), (fun _ h => nomatch h), fun _ _ => ?_, fun _ => rfl⟩
              have := (List.nodup_append.1 hn).1
              rw [y3, ← y2] at this
              exact this
            · exact a2 z hz
        cases x <;> simp only [lendOwn, Rd.val_fail] at l3 <;> try (simp at l3; done)
        case row b g =>
          simp only [Rd.val_bind, Rd.val_blk, Option.bind_some] at l3 h
          split at l3
          case h_2 => simp at l3
          rename_i g' u ts' e cl hb
          simp only [Rd.val_bind, Rd.if_bind, Bool.and_eq_true, beq_iff_eq] at l3
          obtain ⟨⟨rfl, _⟩, l3⟩ := l3
          simp at l3
          rw [hb] at h
          simp only [Rd.val_bind, Rd.if_bind, beq_self_eq_true] at h
          obtain ⟨_, h⟩ := h
          simp at h
          exact more (by rw [hb]; exact Nat.le_refl _) (fun h => by simp only [Bool.and_eq_true] at h; exact h.2) (.inl l3.2.1.symm) h.symm
        case nil =>
          simp at l3
          simp only [Rd.val_bind, Rd.val_blk, Option.bind_some] at h
          simp at h
          exact more (Nat.le_refl _) (by simp) (.inr l3.2.1) h.symm

end
end Go.Sx
