/-
  The machine, part X: parameters, and a function's summary out of its tree.
-/
import Derived.Test.YtnglgoloeabbeaaMW
namespace Go.Sx
open Go Go.RowKit
set_option linter.unusedSimpArgs false
set_option linter.unusedVariables false

/-- What is fixed of the parameters. -/
inductive FixOk (w : World) (B : Base) : Nat → Nat → List PK → List Value → Prop
  | nil {t i : Nat} : FixOk w B t i [] []
  | val {t i : Nat} {ts : List (Ty × Md)} {agg : Bool} {ps : List PK} {v : Value} {vs cs : List Value} : argVal agg cs v → cs.length = ts.length →
      (∀ (j : Nat) (tt : List Ty), ts[j]? = some (Ty.sl tt, Md.wr) → ∃ h k, (nm t 0 + j, h, k) ∈ B.fix ∧ cs[j]? = some h) → FixOk w B (t + 1) (i + ts.length) ps vs → FixOk w B t i (.val ts agg :: ps) (v :: vs)
  | box {t i : Nat} {ts : List (Ty × Rm)} {ps : List PK} {b : Nat} {T : TypeId} {cs : List Value} {h : Value} {vs : List Value} : w.heap[b]? = some (.cells cs.toArray T (0, 0)) → (nm t 63, h, b) ∈ B.fix →
      (∀ (j : Nat) (tt : List Ty), ts[j]? = some (Ty.sl tt, Rm.kept) → cs[j]? = some (B.given (i + j))) → FixOk w B (t + 1) (i + ts.length) ps vs → FixOk w B t i (.box ts :: ps) (.pointer (some ⟨b, 0, none⟩) :: vs)

section
variable {P : Program} {c : Ctx} {sl : Nat → AV} {a : Act} {B : Base}

theorem retWr_ok (s : Sim B c sl a) : ∀ {ts : List (Ty × Md)} {cs : List Value} {b : Nat} {used : List Use} {q : List E × List Use}, cs.length = ts.length →
    (∀ (j : Nat) (tt : List Ty), ts[j]? = some (Ty.sl tt, Md.wr) → ∃ h k, (b + j, h, k) ∈ B.fix ∧ cs[j]? = some h) → retWr c.hp b ts used = some q → UInv used →
    UInv q.2 ∧ ∃ new H O, q.2 = new ++ used ∧ CellsBack c.w ts cs (c.dens q.1) H O ∧ Handed c (wNames new) (vNames new) H O []
  | [], cs, b, used, q, hl, hf, h, hu => by
    simp [retWr] at h; subst h
    have : cs = [] := by simpa using hl
    subst this
    exact ⟨hu, [], [], [], rfl, .nil, Handed.nil⟩
  | (t, m) :: ts, cs, b, used, q, hl, hf, h, hu => by
    cases cs with
    | nil => simp at hl
    | cons v cs =>
      have hl' : cs.length = ts.length := by simpa using hl
      have hf' : ∀ (j : Nat) (tt : List Ty), ts[j]? = some (Ty.sl tt, Md.wr) → ∃ h k, (b + 1 + j, h, k) ∈ B.fix ∧ cs[j]? = some h := fun j tt hj => by
        obtain ⟨h, k, h1, h2⟩ := hf (j + 1) tt (by simpa using hj)
        exact ⟨h, k, by rw [show b + 1 + j = b + (j + 1) from by omega]; exact h1, by simpa using h2⟩
      have other : isSl t = false ∨ m ≠ .wr → retWr c.hp (b + 1) ts used = some q → UInv q.2 ∧ ∃ new H O, q.2 = new ++ used ∧ CellsBack c.w ((t, m) :: ts) (v :: cs) (c.dens q.1) H O ∧ Handed c (wNames new) (vNames new) H O [] := by
        intro hm h
        obtain ⟨r1, new, H, O, r2, r3, r4⟩ := retWr_ok s hl' hf' h hu
        exact ⟨r1, new, H, O, r2, .other hm r3, r4⟩
      cases t with
      | sl t0 =>
        cases m with
        | wr =>
          simp only [retWr] at h
          split at h
          case h_2 => simp at h
          rename_i u ts' e cl hb
          split at h
          case isFalse => simp at h
          rename_i hck
          simp only [Bool.and_eq_true] at hck
          obtain ⟨hts, hfree⟩ := hck
          have := Ty.eqL hts
          subst this
          obtain ⟨es, h1, h2⟩ := pushE_some h
          obtain ⟨r1, new, H, O, r2, r3, r4⟩ := retWr_ok s hl' hf' h1 (hu.whole hfree)
          simp only at r1 r2 r3
          obtain ⟨hd, k, k1, k2⟩ := hf 0 ts' (by simp)
          simp only [List.getElem?_cons_zero, Option.some.injEq] at k2
          obtain ⟨x, k3, k4⟩ := s.fixed _ k1
          simp only [Nat.add_zero] at k3 k4
          rw [hb] at k3
          simp only [Option.some.injEq] at k3
          subst k3
          have hhdr : (c.L b).hdr = v := by rw [k2]; exact k4.1
          have hrow := handed_row s hb
          refine ⟨r1, new ++ [.whole b], topOf v ++ H, ((c.L b).top ++ (c.L b).fp) ++ O, by rw [r2]; simp, ?_, ?_⟩
          · rw [h2, dens_cons]
            refine .wr ?_ r3
            rw [← hhdr]
            exact row_rep_own (s.blks _ _ hb)
          · rw [wNames_append, vNames_append]
            have hq : UInv (new ++ ([.whole b] ++ used)) := by rw [← List.singleton_append] at r2; rw [← r2]; exact r1
            obtain ⟨d1, d2, _⟩ := (UInv.pre hq).split
            rw [hhdr] at hrow
            have := hrow.append s r4 (fun x hx => ⟨fun hm => (d1 x hm).1 hx, d2 x hx⟩) fun x hx => (d1 x hx).2
            exact this
        | ro => exact other (.inr (by simp)) (by simpa [retWr] using h)
        | give => exact other (.inr (by simp)) (by simpa [retWr] using h)
      | int k => exact other (.inl rfl) (by cases m <;> simpa [retWr] using h)
      | bool => exact other (.inl rfl) (by cases m <;> simpa [retWr] using h)
      | str => exact other (.inl rfl) (by cases m <;> simpa [retWr] using h)
      | err => exact other (.inl rfl) (by cases m <;> simpa [retWr] using h)

theorem retParams_ok (s : Sim B c sl a) (hgv : c.given = B.given) {w0 : World} : ∀ {ps : List PK} {args : List Value} {t i : Nat} {used : List Use} {q : List E × List Use}, FixOk w0 B t i ps args → retParams c.hp t i ps used = some q → UInv used →
    UInv q.2 ∧ ∃ new H O R, q.2 = new ++ used ∧ BackOut c.w ps args (c.dens q.1) H O R ∧ Handed c (wNames new) (vNames new) H O R ∧ KeptAll w0 c.w ps args
  | _, _, t, i, used, q, .nil, h, hu => by
    simp [retParams] at h; subst h
    exact ⟨hu, [], [], [], [], rfl, .nil, Handed.nil, .nil⟩
  | _, _, t, i, used, q, .val (ts := ts) h1 h2 h3 h4, h, hu => by
    simp only [retParams] at h
    split at h
    case h_2 => simp at h
    rename_i es used1 hw
    split at h
    case h_2 => simp at h
    rename_i es' used2 hr
    simp only [Option.some.injEq] at h
    subst h
    obtain ⟨r1, new1, H1, O1, r2, r3, r4⟩ := retWr_ok s h2 h3 hw hu
    simp only at r1 r2 r3
    obtain ⟨k1, new2, H2, O2, R2, k2, k3, k4, k5⟩ := retParams_ok s hgv h4 hr r1
    simp only at k1 k2 k3
    have hq : UInv (new2 ++ (new1 ++ used)) := by rw [← r2, ← k2]; exact k1
    obtain ⟨d1, d2, _⟩ := (UInv.pre hq).split
    refine ⟨k1, new2 ++ new1, H1 ++ H2, O1 ++ O2, R2, by rw [k2, r2, List.append_assoc], ?_, ?_, .val k5⟩
    · rw [dens_append]; exact .val h1 r3 k3
    · rw [wNames_append, vNames_append]
      have := r4.append s k4 (fun x hx => ⟨fun hm => (d1 x hm).1 hx, d2 x hx⟩) fun x hx => (d1 x hx).2
      simpa using this
  | _, _, t, i, used, q, .box (ts := ts) (b := bk) (cs := cs0) h1 h2 h3 h4, h, hu => by
    simp only [retParams] at h
    split at h
    · simp at h
    rename_i hfree
    have hfree' : Use.free (.whole (nm t 63)) used = true := by simpa using hfree
    split at h
    case h_2 => simp at h
    rename_i cells hb
    split at h
    case h_2 => simp at h
    rename_i es used1 hw
    split at h
    case h_2 => simp at h
    rename_i es' used2 hr
    simp only [Option.some.injEq] at h
    subst h
    obtain ⟨x, k3, k4⟩ := s.fixed _ h2
    simp only at k3 k4
    rw [hb] at k3
    simp only [Option.some.injEq] at k3
    subst k3
    have hblk : (c.L (nm t 63)).blk = bk := k4
    obtain ⟨vs, T, e1, e2⟩ := s.blks _ _ hb
    rw [hblk] at e1
    obtain ⟨r1, new1, H1, O1, R1, r2, r3, r4, r5⟩ := retCells_ok s e2 hw (hu.whole hfree')
    simp only at r1 r2 r3
    obtain ⟨k1, new2, H2, O2, R2, k2, k3, k4', k5⟩ := retParams_ok s hgv h4 hr r1
    simp only at k1 k2 k3
    have hbh : Handed c (wNames [.whole (nm t 63)]) (vNames [.whole (nm t 63)]) [bk] [bk] [] := by
      rw [← hblk]
      exact ⟨fun k hk => ⟨_, List.mem_singleton.2 rfl, _, hb, hk⟩, fun k hk => ⟨_, List.mem_singleton.2 rfl, _, hb, hk⟩, by simp, (fun _ h => nomatch h), fun _ h => nomatch h⟩
    have hq1 : UInv (new1 ++ ([.whole (nm t 63)] ++ used)) := by rw [← List.singleton_append] at r2; rw [← r2]; exact r1
    obtain ⟨e1', e2', _⟩ := (UInv.pre hq1).split
    have h12 := hbh.append s r4 (fun x hx => ⟨fun hm => (e1' x hm).1 hx, e2' x hx⟩) fun x hx => (e1' x hx).2
    rw [← wNames_append, ← vNames_append] at h12
    have hused : used2 = new2 ++ ((new1 ++ [.whole (nm t 63)]) ++ used) := by rw [k2, r2]; simp
    have hq : UInv (new2 ++ ((new1 ++ [.whole (nm t 63)]) ++ used)) := by rw [← hused]; exact k1
    obtain ⟨d1, d2, _⟩ := (UInv.pre hq).split
    have h123 := h12.append s k4' (fun x hx => ⟨fun hm => (d1 x hm).1 hx, d2 x hx⟩) fun x hx => (d1 x hx).2
    rw [← wNames_append, ← vNames_append] at h123
    refine ⟨k1, new2 ++ (new1 ++ [.whole (nm t 63)]), bk :: (H1 ++ H2), bk :: (O1 ++ O2), R1 ++ R2, by rw [hused]; simp, ?_, by simpa using h123, .box (fun j tt hj => ?_) k5⟩
    · rw [dens_append]; exact .box e1 r3 k3
    · rw [cell_of_row _ _ _ _ _ _ h1, cell_of_row _ _ _ _ _ _ e1]
      have q1 := h3 j tt hj
      have q2 := r5 j tt hj
      rw [hgv] at q2
      simp [q1, q2]
end

/-! ### At first -/

structure Ents0 (M A : List Nat) (lo hi : Nat) (zs : List Ent) : Prop where
  sub : (zs.map Ent.o).flatten.Sublist A
  rng : ∀ z ∈ zs, lo ≤ z.b ∧ z.b < hi
  acc : ∀ z ∈ zs, ∀ k ∈ Sx.acc z.x z.l, k ∈ z.o
  hard : ∀ z ∈ zs, ∀ k ∈ Sx.hard z.x z.l, k ∈ M
  dist : distinct (zs.map Ent.b) = true

theorem Ents0.nil {M A : List Nat} {lo hi : Nat} : Ents0 M A lo hi [] := ⟨by simp, (fun _ h => nomatch h), (fun _ h => nomatch h), (fun _ h => nomatch h), rfl⟩

theorem distinct_append : ∀ {l m : List Nat}, distinct l = true → distinct m = true → (∀ x ∈ l, x ∉ m) → distinct (l ++ m) = true
  | [], m, _, h, _ => h
  | x :: l, m, h1, h2, h3 => by
    simp only [distinct, Bool.and_eq_true, Bool.not_eq_true', List.contains_eq_mem, decide_eq_false_iff_not] at h1
    simp only [List.cons_append, distinct, Bool.and_eq_true, Bool.not_eq_true', List.contains_eq_mem, decide_eq_false_iff_not, List.mem_append, not_or]
    exact ⟨⟨h1.1, h3 x (List.mem_cons_self ..)⟩, distinct_append h1.2 h2 fun y hy => h3 y (List.mem_cons_of_mem _ hy)⟩

theorem Ents0.append {M A M' A' : List Nat} {lo mid hi : Nat} {zs ys : List Ent} (h : Ents0 M A lo mid zs) (h' : Ents0 M' A' mid hi ys) (hm : lo ≤ mid) (hh : mid ≤ hi) : Ents0 (M ++ M') (A ++ A') lo hi (zs ++ ys) where
  sub := by rw [List.map_append, List.flatten_append]; exact List.Sublist.append h.sub h'.sub
  rng := fun z hz => by
    rcases List.mem_append.1 hz with hz | hz
    · have := h.rng z hz; omega
    · have := h'.rng z hz; omega
  acc := fun z hz => by
    rcases List.mem_append.1 hz with hz | hz
    · exact h.acc z hz
    · exact h'.acc z hz
  hard := fun z hz k hk => by
    rcases List.mem_append.1 hz with hz | hz
    · exact List.mem_append_left _ (h.hard z hz k hk)
    · exact List.mem_append_right _ (h'.hard z hz k hk)
  dist := by
    rw [List.map_append]
    refine distinct_append h.dist h'.dist fun x hx hx' => ?_
    obtain ⟨z, hz, rfl⟩ := List.mem_map.1 hx
    obtain ⟨y, hy, e⟩ := List.mem_map.1 hx'
    have := h.rng z hz
    have := h'.rng y hy
    omega

theorem Ents0.mono {M A M' A' : List Nat} {lo hi lo' hi' : Nat} {zs : List Ent} (h : Ents0 M A lo hi zs) (hM : ∀ k ∈ M, k ∈ M') (hA : A.Sublist A') (h1 : lo' ≤ lo) (h2 : hi ≤ hi') : Ents0 M' A' lo' hi' zs :=
  ⟨h.sub.trans hA, fun z hz => by have := h.rng z hz; omega, h.acc, fun z hz k hk => hM k (h.hard z hz k hk), h.dist⟩

theorem Ents0.one {M A : List Nat} {z : Ent} (h1 : z.o.Sublist A) (h2 : ∀ k ∈ Sx.acc z.x z.l, k ∈ z.o) (h3 : ∀ k ∈ Sx.hard z.x z.l, k ∈ M) : Ents0 M A z.b (z.b + 1) [z] :=
  ⟨by simpa using h1, fun y hy => by rw [List.mem_singleton.1 hy]; omega, fun y hy => by rw [List.mem_singleton.1 hy]; exact h2, fun y hy => by rw [List.mem_singleton.1 hy]; exact h3, by simp [distinct]⟩

/-- A state at first. -/
structure First (w : World) (c : Ctx) (zs : List Ent) (ro : List Nat) : Prop where
  w : c.w = w
  at_ : ∀ z ∈ zs, c.hp z.b = some z.x ∧ c.L z.b = z.l
  ro : ∀ k ∈ ro, Perm c.hp c.L k
theorem First.sub {w : World} {c : Ctx} {zs ys : List Ent} {ro ro' : List Nat} (h : First w c zs ro) (hz : ∀ z ∈ ys, z ∈ zs) (hr : ∀ k ∈ ro', k ∈ ro) : First w c ys ro' := ⟨h.w, fun z hy => h.at_ z (hz z hy), fun k hk => h.ro k (hr k hk)⟩

/-- The entry of a row that came in. -/
def inEnt (b i : Nat) (ts : List Ty) (clean : Bool) (v : Value) (f : List Nat) : Ent := ⟨b, .row 0 0 ts (.var i) true clean true, locOf v f, f, []⟩

theorem inEnt_ok {w : World} {b i : Nat} {ts : List Ty} {clean : Bool} {v : Value} {d : D} {f M A : List Nat} (hr : Rep w true (.sl ts) v d f) (hM : ∀ k ∈ topOf v, k ∈ M) (hM' : clean = true → ∀ k ∈ f, k ∈ M) : Ents0 M (f ++ A) b (b + 1) [inEnt b i ts clean v f] ∧ (locOf v f).hdr = v ∧
    ∀ c : Ctx, First w c [inEnt b i ts clean v f] [] → c.den (.var i) = d → f.Nodup → AVOk c (.row b 0) v ∧ BlkOk c (inEnt b i ts clean v f).x (inEnt b i ts clean v f).l := by
  obtain ⟨y1, y2, y3, l, y4, y5⟩ := locOf_own hr
  obtain ⟨p0, k0, e0, _⟩ := rep_slice hr
  refine ⟨Ents0.one (z := inEnt b i ts clean v f) (show f.Sublist (f ++ A) from List.sublist_append_left _ _) (fun k hk => ?_) (fun k hk => ?_), y1, fun c hc hd hn => ⟨⟨⟨_, _, _, e0⟩, ?_, fun u ts' e' own' clean' live' hx => ?_⟩, ⟨l, by rw [← y4]; exact hd, y5 c hc.w true true⟩, (fun h => nomatch h), (fun _ h => nomatch h), fun _ _ => ?_, fun _ => rfl⟩⟩
  · show k ∈ f
    rw [y3, ← y2]
    simpa [inEnt, acc] using hk
  · simp only [inEnt, hard] at hk
    rcases List.mem_append.1 hk with hk | hk
    · exact hM k (by rw [← y2]; exact hk)
    · split at hk
      · rename_i h
        exact hM' h k (by rw [y3]; exact List.mem_append_right _ hk)
      · exact nomatch hk
  · have h1 : c.hp b = some (inEnt b i ts clean v f).x := (hc.at_ (inEnt b i ts clean v f) (List.mem_singleton.2 rfl)).1
    rw [h1]; simp [inEnt, gen]
  · have h1 : c.L b = (inEnt b i ts clean v f).l := (hc.at_ (inEnt b i ts clean v f) (List.mem_singleton.2 rfl)).2
    rw [h1]; exact y1.symm
  · show ((locOf v f).top ++ (locOf v f).fp).Nodup
    rw [y2, ← y3]; exact hn

theorem startVal_ok {w : World} : ∀ {ts : List (Ty × Md)} {cs : List Value} {ds : List D} {ro M A : List Nat} {i b : Nat}, CellsIn w ts cs ds ro M A → cs.length = ts.length ∧ ds.length = ts.length ∧
    ∃ zs : List Ent, zs.map (fun z => (z.b, z.x)) = (startVal i ts b).2 ∧ Ents0 M A b (b + ts.length) zs ∧ (∀ (j : Nat) (tt : List Ty), ts[j]? = some (Ty.sl tt, Md.wr) → ∃ z ∈ zs, z.b = b + j ∧ cs[j]? = some z.l.hdr) ∧
      ∀ c : Ctx, First w c zs ro → (∀ j d, ds[j]? = some d → c.den (.var (i + j)) = d) → A.Nodup → AVsOk c (startVal i ts b).1 cs ∧ ∀ z ∈ zs, BlkOk c z.x z.l
  | _, _, _, _, _, _, i, b, .nil => ⟨rfl, rfl, [], rfl, Ents0.nil, (fun j tt hj => by simp at hj), fun c _ _ _ => ⟨trivial, fun _ h => nomatch h⟩⟩
  | _, _, _, _, _, _, i, b, .ro (t := t) (m := m) (ts := ts) (v := v) (d := d) (f := f) hm hr h => by
    obtain ⟨l1, l2, zs, z1, z2, z3, z4⟩ := startVal_ok (i := i + 1) (b := b + 1) h
    have shape : ∃ x, startVal i ((t, m) :: ts) b = (x :: (startVal (i + 1) ts (b + 1)).1, (startVal (i + 1) ts (b + 1)).2) ∧ ∀ c : Ctx, First w c [] f → c.den (.var i) = d → AVOk c x v := by
      have sc : isSl t = false → ∀ c : Ctx, First w c [] f → c.den (.var i) = d → AVOk c (.sc t (.var i)) v := fun hs c hc hd => ⟨hs, by rw [hd, hc.w]; rw [sc_fp hr hs] at hr; exact hr⟩
      cases t with
      | sl t0 =>
        have : m = .ro := by
          rcases hm with h | h
          · simp [isSl] at h
          · exact h
        subst this
        exact ⟨.ro t0 (.var i), rfl, fun c hc hd => ⟨f, by rw [hd, hc.w]; exact hr, hc.ro⟩⟩
      | int k => exact ⟨_, by cases m <;> rfl, sc rfl⟩
      | bool => exact ⟨_, by cases m <;> rfl, sc rfl⟩
      | str => exact ⟨_, by cases m <;> rfl, sc rfl⟩
      | err => exact ⟨_, by cases m <;> rfl, sc rfl⟩
    obtain ⟨x, hx, hok⟩ := shape
    refine ⟨by simp [l1], by simp [l2], zs, by rw [hx]; exact z1, z2.mono (fun _ h => h) (List.Sublist.refl _) (by omega) (by simp only [List.length_cons]; omega), fun j tt hj => ?_, fun c hc hd hn => ?_⟩
    · cases j with
      | zero =>
        simp only [List.getElem?_cons_zero, Option.some.injEq, Prod.mk.injEq] at hj
        rcases hm with h | h
        · rw [hj.1] at h; simp [isSl] at h
        · rw [hj.2] at h; exact nomatch h
      | succ j =>
        obtain ⟨z, hz, e1, e2⟩ := z3 j tt (by simpa using hj)
        exact ⟨z, hz, by omega, by simpa using e2⟩
    · obtain ⟨k1, k2⟩ := z4 c (hc.sub (fun z hz => hz) fun k hk => List.mem_append_right _ hk) (fun j d hj => by rw [show i + 1 + j = i + (j + 1) from by omega]; exact hd (j + 1) d (by simpa using hj)) hn
      rw [hx]
      exact ⟨⟨hok c (hc.sub (fun _ h => nomatch h) fun k hk => List.mem_append_left _ hk) (hd 0 _ (by simp)), k1⟩, k2⟩
  | _, _, _, _, _, _, i, b, .wr (t := t) (ts := ts) (v := v) (d := d) (f := f) (M := M) (A := A) hr h => by
    obtain ⟨l1, l2, zs, z1, z2, z3, z4⟩ := startVal_ok (i := i + 1) (b := b + 1) h
    obtain ⟨o, ho⟩ := topOf_rep hr rfl
    obtain ⟨k1, k2, k3⟩ := inEnt_ok (b := b) (i := i) (clean := true) (M := f) (A := []) hr (fun k hk => by rw [ho]; exact List.mem_append_left _ hk) (fun _ k hk => hk)
    rw [List.append_nil] at k1
    refine ⟨by simp [l1], by simp [l2], inEnt b i t true v f :: zs, by simp only [List.map_cons, z1]; rfl, (k1.append z2 (by omega) (by omega)).mono (fun _ h => h) (List.Sublist.refl _) (Nat.le_refl _) (by simp only [List.length_cons]; omega), fun j tt hj => ?_, fun c hc hd hn => ?_⟩
    · cases j with
      | zero => exact ⟨_, List.mem_cons_self .., rfl, by simp only [List.getElem?_cons_zero]; exact congrArg some k2.symm⟩
      | succ j =>
        obtain ⟨z, hz, e1, e2⟩ := z3 j tt (by simpa using hj)
        exact ⟨z, List.mem_cons_of_mem _ hz, by omega, by simpa using e2⟩
    · obtain ⟨q1, q2⟩ := z4 c (hc.sub (fun z hz => List.mem_cons_of_mem _ hz) fun k hk => hk) (fun j d hj => by rw [show i + 1 + j = i + (j + 1) from by omega]; exact hd (j + 1) d (by simpa using hj)) (List.nodup_append.1 hn).2.1
      obtain ⟨p1, p2⟩ := k3 c (hc.sub (fun z hz => by rw [List.mem_singleton.1 hz]; exact List.mem_cons_self ..) (fun _ h => nomatch h)) (hd 0 _ (by simp)) (List.nodup_append.1 hn).1
      refine ⟨⟨p1, q1⟩, fun z hz => ?_⟩
      rcases List.mem_cons.1 hz with rfl | hz
      · exact p2
      · exact q2 z hz
  | _, _, _, _, _, _, i, b, .give (t := t) (ts := ts) (v := v) (d := d) (f := f) (M := M) (A := A) _ hr h => by
    obtain ⟨l1, l2, zs, z1, z2, z3, z4⟩ := startVal_ok (i := i + 1) (b := b + 1) h
    obtain ⟨o, ho⟩ := topOf_rep hr rfl
    obtain ⟨k1, k2, k3⟩ := inEnt_ok (b := b) (i := i) (clean := false) (M := f) (A := []) hr (fun k hk => by rw [ho]; exact List.mem_append_left _ hk) (fun h => nomatch h)
    rw [List.append_nil] at k1
    refine ⟨by simp [l1], by simp [l2], inEnt b i t false v f :: zs, by simp only [List.map_cons, z1]; rfl, (k1.append z2 (by omega) (by omega)).mono (fun _ h => h) (List.Sublist.refl _) (Nat.le_refl _) (by simp only [List.length_cons]; omega), fun j tt hj => ?_, fun c hc hd hn => ?_⟩
    · cases j with
      | zero => simp at hj
      | succ j =>
        obtain ⟨z, hz, e1, e2⟩ := z3 j tt (by simpa using hj)
        exact ⟨z, List.mem_cons_of_mem _ hz, by omega, by simpa using e2⟩
    · obtain ⟨q1, q2⟩ := z4 c (hc.sub (fun z hz => List.mem_cons_of_mem _ hz) fun k hk => hk) (fun j d hj => by rw [show i + 1 + j = i + (j + 1) from by omega]; exact hd (j + 1) d (by simpa using hj)) (List.nodup_append.1 hn).2.1
      obtain ⟨p1, p2⟩ := k3 c (hc.sub (fun z hz => by rw [List.mem_singleton.1 hz]; exact List.mem_cons_self ..) (fun _ h => nomatch h)) (hd 0 _ (by simp)) (List.nodup_append.1 hn).1
      refine ⟨⟨p1, q1⟩, fun z hz => ?_⟩
      rcases List.mem_cons.1 hz with rfl | hz
      · exact p2
      · exact q2 z hz

theorem startBox_ok {w : World} : ∀ {ts : List (Ty × Rm)} {cs : List Value} {ds : List D} {ro M A : List Nat} {i b : Nat}, BoxIn w ts cs ds ro M A → cs.length = ts.length ∧ ds.length = ts.length ∧
    ∃ zs : List Ent, zs.map (fun z => (z.b, z.x)) = (startBox i ts b).2 ∧ Ents0 M A b (b + ts.length) zs ∧
      ∀ c : Ctx, First w c zs ro → (∀ j d, ds[j]? = some d → c.den (.var (i + j)) = d) → (∀ j v, cs[j]? = some v → c.given (i + j) = v) → A.Nodup → AVsOk c (startBox i ts b).1 cs ∧ ∀ z ∈ zs, BlkOk c z.x z.l
  | _, _, _, _, _, _, i, b, .nil => ⟨rfl, rfl, [], rfl, Ents0.nil, fun c _ _ _ _ => ⟨trivial, fun _ h => nomatch h⟩⟩
  | _, _, _, _, _, _, i, b, .ro (t := t) (m := m) (ts := ts) (v := v) (d := d) (f := f) hm hr h => by
    obtain ⟨l1, l2, zs, z1, z2, z4⟩ := startBox_ok (i := i + 1) (b := b + 1) h
    have shape : ∃ x, startBox i ((t, m) :: ts) b = (x :: (startBox (i + 1) ts (b + 1)).1, (startBox (i + 1) ts (b + 1)).2) ∧ ∀ c : Ctx, First w c [] f → c.den (.var i) = d → c.given i = v → AVOk c x v := by
      have sc : isSl t = false → ∀ c : Ctx, First w c [] f → c.den (.var i) = d → c.given i = v → AVOk c (.sc t (.var i)) v := fun hs c hc hd _ => ⟨hs, by rw [hd, hc.w]; rw [sc_fp hr hs] at hr; exact hr⟩
      cases t with
      | sl t0 =>
        cases m with
        | own => rcases hm with h | h
                 · simp [isSl] at h
                 · exact absurd rfl h
        | ro => exact ⟨.ro t0 (.var i), rfl, fun c hc hd _ => ⟨f, by rw [hd, hc.w]; exact hr, hc.ro⟩⟩
        | top => exact ⟨.ro t0 (.var i), rfl, fun c hc hd _ => ⟨f, by rw [hd, hc.w]; exact hr, hc.ro⟩⟩
        | kept => exact ⟨.orig t0 i, rfl, fun c hc hd hg => ⟨hg.symm, f, by rw [hd, hc.w]; exact hr, hc.ro⟩⟩
      | int k => exact ⟨_, by cases m <;> rfl, sc rfl⟩
      | bool => exact ⟨_, by cases m <;> rfl, sc rfl⟩
      | str => exact ⟨_, by cases m <;> rfl, sc rfl⟩
      | err => exact ⟨_, by cases m <;> rfl, sc rfl⟩
    obtain ⟨x, hx, hok⟩ := shape
    refine ⟨by simp [l1], by simp [l2], zs, by rw [hx]; exact z1, z2.mono (fun _ h => h) (List.Sublist.refl _) (by omega) (by simp only [List.length_cons]; omega), fun c hc hd hg hn => ?_⟩
    obtain ⟨k1, k2⟩ := z4 c (hc.sub (fun z hz => hz) fun k hk => List.mem_append_right _ hk) (fun j d hj => by rw [show i + 1 + j = i + (j + 1) from by omega]; exact hd (j + 1) d (by simpa using hj)) (fun j v hj => by rw [show i + 1 + j = i + (j + 1) from by omega]; exact hg (j + 1) v (by simpa using hj)) hn
    rw [hx]
    exact ⟨⟨hok c (hc.sub (fun _ h => nomatch h) fun k hk => List.mem_append_left _ hk) (hd 0 _ (by simp)) (hg 0 _ (by simp)), k1⟩, k2⟩
  | _, _, _, _, _, _, i, b, .own (t := t) (ts := ts) (v := v) (d := d) (f := f) (M := M) (A := A) hr h => by
    obtain ⟨l1, l2, zs, z1, z2, z4⟩ := startBox_ok (i := i + 1) (b := b + 1) h
    obtain ⟨k1, k2, k3⟩ := inEnt_ok (b := b) (i := i) (clean := false) (M := topOf v) (A := []) hr (fun k hk => hk) (fun h => nomatch h)
    rw [List.append_nil] at k1
    refine ⟨by simp [l1], by simp [l2], inEnt b i t false v f :: zs, by simp only [List.map_cons, z1]; rfl, (k1.append z2 (by omega) (by omega)).mono (fun _ h => h) (List.Sublist.refl _) (Nat.le_refl _) (by simp only [List.length_cons]; omega), fun c hc hd hg hn => ?_⟩
    obtain ⟨q1, q2⟩ := z4 c (hc.sub (fun z hz => List.mem_cons_of_mem _ hz) fun k hk => hk) (fun j d hj => by rw [show i + 1 + j = i + (j + 1) from by omega]; exact hd (j + 1) d (by simpa using hj)) (fun j v hj => by rw [show i + 1 + j = i + (j + 1) from by omega]; exact hg (j + 1) v (by simpa using hj)) (List.nodup_append.1 hn).2.1
    obtain ⟨p1, p2⟩ := k3 c (hc.sub (fun z hz => by rw [List.mem_singleton.1 hz]; exact List.mem_cons_self ..) (fun _ h => nomatch h)) (hd 0 _ (by simp)) (List.nodup_append.1 hn).1
    refine ⟨⟨p1, q1⟩, fun z hz => ?_⟩
    rcases List.mem_cons.1 hz with rfl | hz
    · exact p2
    · exact q2 z hz

theorem fixVal_mem : ∀ {ts : List (Ty × Md)} {b j : Nat} {tt : List Ty}, ts[j]? = some (Ty.sl tt, Md.wr) → b + j ∈ fixVal b ts
  | [], b, j, tt, h => by simp at h
  | (t, m) :: ts, b, 0, tt, h => by
    simp only [List.getElem?_cons_zero, Option.some.injEq, Prod.mk.injEq] at h
    rw [h.1, h.2]
    simp [fixVal]
  | (t, m) :: ts, b, j + 1, tt, h => by
    have := fixVal_mem (ts := ts) (b := b + 1) (j := j) (tt := tt) (by simpa using h)
    rw [show b + 1 + j = b + (j + 1) from by omega] at this
    cases t <;> cases m <;> simp only [fixVal] <;> first | exact this | exact List.mem_cons_of_mem _ this

theorem start_ok {w : World} : ∀ {ps : List PK} {args : List Value} {ds : List D} {ro M A : List Nat} {t i : Nat}, ArgsIn w ps args ds ro M A → (∀ k ∈ ps, match k with
      | .val ts _ => ts.length < 60
      | .box ts => ts.length < 60) →
    (start t i ps).2 = i + ds.length ∧ args.length = ps.length ∧ ∃ (zs : List Ent) (cells : List Value), cells.length = ds.length ∧ zs.map (fun z => (z.b, z.x)) = (start t i ps).1.heap ∧ Ents0 M A (nm t 0) (nm (t + ps.length) 0) zs ∧
      (∀ B : Base, (∀ z ∈ zs, z.b ∈ fixNames t ps → (z.b, z.l.hdr, z.l.blk) ∈ B.fix) → (∀ j v, cells[j]? = some v → B.given (i + j) = v) → FixOk w B t i ps args) ∧
      ∀ c : Ctx, First w c zs ro → (∀ j d, ds[j]? = some d → c.den (.var (i + j)) = d) → (∀ j v, cells[j]? = some v → c.given (i + j) = v) → A.Nodup →
        (∀ t', lookAV (start t i ps).1.slots t' = .undef ∨ ∃ j v, t' = t + j ∧ args[j]? = some v ∧ AVOk c (lookAV (start t i ps).1.slots t') v) ∧ ∀ z ∈ zs, BlkOk c z.x z.l
  | _, _, _, _, _, _, t, i, .nil, _ => ⟨rfl, rfl, [], [], rfl, rfl, Ents0.nil, (fun B _ _ => .nil), fun c _ _ _ _ => ⟨fun t' => .inl rfl, fun _ h => nomatch h⟩⟩
  | _, _, _, _, _, _, t, i, .val (ts := ts) (agg := agg) (ps := ps) (v := v) (vs := vs) (cs := cs) (ds := ds) (ds' := ds') hav hcs hrest, hlen => by
    have hl60 := hlen _ (List.mem_cons_self ..)
    simp only at hl60
    obtain ⟨l1, l2, zs, z1, z2, z3, z4⟩ := startVal_ok (i := i) (b := nm t 0) hcs
    obtain ⟨n1, n2, ys, cells, y1, y2, y3, y4, y5⟩ := start_ok (t := t + 1) (i := i + ts.length) hrest fun k hk => hlen k (List.mem_cons_of_mem _ hk)
    have hnm : nm t 0 + ts.length ≤ nm (t + 1) 0 := by unfold nm; omega
    have hnm2 : nm (t + 1) 0 ≤ nm (t + 1 + ps.length) 0 := by unfold nm; omega
    have z2' := (z2.mono (fun _ h => h) (List.Sublist.refl _) (Nat.le_refl _) hnm).append y3 (by unfold nm; omega) hnm2
    refine ⟨by simp only [start, n1, List.length_append, l2]; omega, by simp [n2], zs ++ ys, cs ++ cells, by rw [List.length_append, List.length_append, y1, l1, l2], by simp only [start, List.map_append, z1, y2], ?_, fun B hB hg => ?_, fun c hc hd hg hn => ?_⟩
    · rw [show t + (PK.val ts agg :: ps).length = t + 1 + ps.length from by simp only [List.length_cons]; omega]
      exact z2'
    · refine .val hav l1 (fun j tt hj => ?_) (y4 B (fun z hz hf => hB z (List.mem_append_right _ hz) (by simp only [fixNames]; exact List.mem_append_right _ hf)) fun j v hj => by
        rw [show i + ts.length + j = i + (ts.length + j) from by omega]
        exact hg (ts.length + j) v (by rw [List.getElem?_append_right (by omega), l1, Nat.add_sub_cancel_left]; exact hj))
      obtain ⟨z, hz, e1, e2⟩ := z3 j tt hj
      refine ⟨z.l.hdr, z.l.blk, ?_, e2⟩
      rw [← e1]
      refine hB z (List.mem_append_left _ hz) ?_
      simp only [fixNames]
      rw [e1]
      exact List.mem_append_left _ (fixVal_mem hj)
    · obtain ⟨k1, k2⟩ := z4 c (hc.sub (fun z hz => List.mem_append_left _ hz) fun k hk => List.mem_append_left _ hk) (fun j d hj => hd j d (by
          have : j < ds.length := by
            rcases Nat.lt_or_ge j ds.length with h | h
            · exact h
            · simp [List.getElem?_eq_none h] at hj
          rw [List.getElem?_append_left this]; exact hj)) (List.nodup_append.1 hn).1
      obtain ⟨q1, q2⟩ := y5 c (hc.sub (fun z hz => List.mem_append_right _ hz) fun k hk => List.mem_append_right _ hk) (fun j d hj => by
          rw [show i + ts.length + j = i + (ts.length + j) from by omega]
          exact hd (ts.length + j) d (by rw [List.getElem?_append_right (by omega), l2, Nat.add_sub_cancel_left]; exact hj)) (fun j v hj => by
          rw [show i + ts.length + j = i + (ts.length + j) from by omega]
          exact hg (ts.length + j) v (by rw [List.getElem?_append_right (by omega), l1, Nat.add_sub_cancel_left]; exact hj)) (List.nodup_append.1 hn).2.1
      refine ⟨fun t' => ?_, fun z hz => ?_⟩
      · simp only [start, lookAV]
        by_cases ht : t = t'
        · subst ht
          refine .inr ⟨0, v, rfl, by simp, ?_⟩
          simp only [beq_self_eq_true, if_true]
          unfold argVal at hav
          cases agg with
          | true =>
            simp only [if_true] at hav ⊢
            exact ⟨cs, hav, k1⟩
          | false =>
            simp at hav
            subst hav
            simp only [Bool.false_eq_true, if_false]
            match hsv : (startVal i ts (nm t 0)).1, k1 with
            | [x], k1 => exact k1.1
            | [], k1 => exact k1.elim
            | _ :: _ :: _, k1 => exact k1.2.elim
        · have : (t == t') = false := by simp [ht]
          simp only [this, Bool.false_eq_true, if_false]
          rcases q1 t' with h | ⟨j, v', e1, e2, e3⟩
          · exact .inl h
          · exact .inr ⟨j + 1, v', by omega, by simpa using e2, e3⟩
      · rcases List.mem_append.1 hz with hz | hz
        · exact k2 z hz
        · exact q2 z hz
  | _, _, _, _, _, _, t, i, .box (ts := ts) (ps := ps) (b := bk) (T := T) (vs := vs) (cs := cs) (ds := ds) (ds' := ds') (r := r) (r' := r') (M := M) (M' := M') (A := A) (A' := A') hbx hcs hrest, hlen => by
    have hl60 := hlen _ (List.mem_cons_self ..)
    simp only at hl60
    obtain ⟨l1, l2, zs, z1, z2, z4⟩ := startBox_ok (i := i) (b := nm t 0) hcs
    obtain ⟨n1, n2, ys, cells, y1, y2, y3, y4, y5⟩ := start_ok (t := t + 1) (i := i + ts.length) hrest fun k hk => hlen k (List.mem_cons_of_mem _ hk)
    have hnm : nm t 0 + ts.length ≤ nm t 63 := by unfold nm; omega
    have hnm2 : nm (t + 1) 0 ≤ nm (t + 1 + ps.length) 0 := by unfold nm; omega
    have hz63 : nm t 63 + 1 = nm (t + 1) 0 := by unfold nm; omega
    let zb : Ent := ⟨nm t 63, .box 0 (startBox i ts (nm t 0)).1, ⟨bk, .nilIface, []⟩, [bk], []⟩
    have zrest := (z2.mono (fun _ h => h) (List.Sublist.refl _) (Nat.le_refl _) hnm).append (Ents0.mono y3 (fun _ h => h) (List.Sublist.refl _) (show nm t 63 ≤ nm (t + 1) 0 by omega) (Nat.le_refl _)) (by unfold nm; omega) (by omega)
    have hall : Ents0 (bk :: (M ++ M')) (bk :: (A ++ A')) (nm t 0) (nm (t + 1 + ps.length) 0) (zb :: (zs ++ ys)) := {
      sub := by simp only [List.map_cons, List.flatten_cons]; exact zrest.sub.cons_cons _
      rng := fun z hz => by
        rcases List.mem_cons.1 hz with rfl | hz
        · show nm t 0 ≤ nm t 63 ∧ nm t 63 < _
          exact ⟨by unfold nm; omega, by omega⟩
        · exact zrest.rng z hz
      acc := fun z hz => by
        rcases List.mem_cons.1 hz with rfl | hz
        · exact fun k hk => hk
        · exact zrest.acc z hz
      hard := fun z hz k hk => by
        rcases List.mem_cons.1 hz with rfl | hz
        · rw [List.mem_singleton.1 hk]; exact List.mem_cons_self ..
        · exact List.mem_cons_of_mem _ (zrest.hard z hz k hk)
      dist := by
        simp only [List.map_cons, distinct, Bool.and_eq_true, Bool.not_eq_true', List.contains_eq_mem, decide_eq_false_iff_not]
        refine ⟨fun hm => ?_, zrest.dist⟩
        obtain ⟨z, hz, e⟩ := List.mem_map.1 hm
        have e' : z.b = nm t 63 := e
        rcases List.mem_append.1 hz with hz | hz
        · have := z2.rng z hz; omega
        · have := y3.rng z hz; omega }
    refine ⟨by simp only [start, n1, List.length_append, l2]; omega, by simp [n2], zb :: (zs ++ ys), cs ++ cells, by rw [List.length_append, List.length_append, y1, l1, l2], by simp only [start, List.map_cons, List.map_append, z1, y2, List.cons_append]; rfl, ?_, fun B hB hg => ?_, fun c hc hd hg hn => ?_⟩
    · rw [show t + (PK.box ts :: ps).length = t + 1 + ps.length from by simp only [List.length_cons]; omega]
      exact hall
    · refine .box hbx (hB zb (List.mem_cons_self ..) (by simp only [fixNames]; exact List.mem_cons_self ..)) (fun j tt hj => ?_) (y4 B (fun z hz hf => hB z (List.mem_cons_of_mem _ (List.mem_append_right _ hz)) (by simp only [fixNames]; exact List.mem_cons_of_mem _ hf)) fun j v hj => by
        rw [show i + ts.length + j = i + (ts.length + j) from by omega]
        exact hg (ts.length + j) v (by rw [List.getElem?_append_right (by omega), l1, Nat.add_sub_cancel_left]; exact hj))
      have hjl : j < cs.length := by
        rw [l1]
        rcases Nat.lt_or_ge j ts.length with h | h
        · exact h
        · simp [List.getElem?_eq_none h] at hj
      rw [hg j cs[j] (by rw [List.getElem?_append_left hjl, List.getElem?_eq_getElem hjl]), List.getElem?_eq_getElem hjl]
    · obtain ⟨hn1, hn2⟩ := List.nodup_cons.1 hn
      have sub : ∀ {α : Type} {l m : List α} {j : Nat} {x : α}, l[j]? = some x → (l ++ m)[j]? = some x := fun {α l m j x} hj => by
        have : j < l.length := by
          rcases Nat.lt_or_ge j l.length with h | h
          · exact h
          · simp [List.getElem?_eq_none h] at hj
        rw [List.getElem?_append_left this]; exact hj
      obtain ⟨k1, k2⟩ := z4 c (hc.sub (fun z hz => List.mem_cons_of_mem _ (List.mem_append_left _ hz)) fun k hk => List.mem_append_left _ hk) (fun j d hj => hd j d (sub hj)) (fun j v hj => hg j v (sub hj)) (List.nodup_append.1 hn2).1
      obtain ⟨q1, q2⟩ := y5 c (hc.sub (fun z hz => List.mem_cons_of_mem _ (List.mem_append_right _ hz)) fun k hk => List.mem_append_right _ hk) (fun j d hj => by
          rw [show i + ts.length + j = i + (ts.length + j) from by omega]
          exact hd (ts.length + j) d (by rw [List.getElem?_append_right (by omega), l2, Nat.add_sub_cancel_left]; exact hj)) (fun j v hj => by
          rw [show i + ts.length + j = i + (ts.length + j) from by omega]
          exact hg (ts.length + j) v (by rw [List.getElem?_append_right (by omega), l1, Nat.add_sub_cancel_left]; exact hj)) (List.nodup_append.1 hn2).2.1
      obtain ⟨b1, b2⟩ := hc.at_ zb (List.mem_cons_self ..)
      replace b1 : c.hp (nm t 63) = some (.box 0 (startBox i ts (nm t 0)).1) := b1
      replace b2 : c.L (nm t 63) = ⟨bk, .nilIface, []⟩ := b2
      refine ⟨fun t' => ?_, fun z hz => ?_⟩
      · simp only [start, lookAV]
        by_cases ht : t = t'
        · subst ht
          refine .inr ⟨0, .pointer (some ⟨bk, 0, none⟩), rfl, by simp, ?_⟩
          simp only [beq_self_eq_true, if_true]
          exact ⟨⟨_, _, rfl⟩, by rw [b1]; simp [gen], fun cells' _ => by rw [b2]⟩
        · have : (t == t') = false := by simp [ht]
          simp only [this, Bool.false_eq_true, if_false]
          rcases q1 t' with h | ⟨j, v', e1, e2, e3⟩
          · exact .inl h
          · exact .inr ⟨j + 1, v', by omega, by simpa using e2, e3⟩
      · rcases List.mem_cons.1 hz with rfl | hz
        · exact ⟨cs, T, by rw [hc.w]; exact hbx, k1⟩
        · rcases List.mem_append.1 hz with hz | hz
          · exact k2 z hz
          · exact q2 z hz

/-! ### A function's summary -/

theorem calls_of_goes {P : Program} {f : FuncId} {fn : Func} {c : Code} {args : Array Value} {w : World} {R : Ending → World → Prop} (hf : P.funcs[f]? = some fn) (hb : fn.body = some c)
    (h : Goes P [.code c] (bodyPost P fn R) { tmps := args ++ Array.replicate (fn.ntmps - args.size) Go.undef, defers := [] } w) : Calls P f args w R := by
  intro cs
  let b : Frame := { (default : Frame) with fn := f, kind := .normal }
  have henter : Frame.enter P f args .normal = b.at { tmps := args ++ Array.replicate (fn.ntmps - args.size) Go.undef, defers := [] } [.code c] := by
    simp [Frame.enter, Frame.at, hf, hb, b]
  obtain ⟨e, a', w', hq, harr⟩ := h b cs
  rw [← henter] at harr
  cases e with
  | normal =>
    obtain ⟨hd, v, hr, hR⟩ := hq
    exact ⟨.returned v, w', _, hR, Steps.trans harr (.one step_end), rfl, rfl, hd, rfl, fn, hf, hr⟩
  | ret =>
    obtain ⟨hd, v, hr, hR⟩ := hq
    obtain ⟨todo, hs⟩ := harr
    exact ⟨.returned v, w', _, hR, hs, rfl, rfl, hd, rfl, fn, hf, hr⟩
  | panic chain =>
    obtain ⟨hd, hR⟩ := hq
    obtain ⟨todo, hs⟩ := harr
    exact ⟨.panicked chain, w', _, hR, hs, rfl, rfl, hd, fn, hf⟩
  | exit id => exact hq.elim
  | goto l => exact hq.elim
  | outgrown => exact ⟨.outgrown, w', b, hq, harr.resolve_left (by simp [b]), rfl, trivial⟩

theorem lookBlk_ents : ∀ {zs : List Ent}, distinct (zs.map Ent.b) = true → ∀ {z : Ent}, z ∈ zs → lookBlk (zs.map fun z => (z.b, z.x)) z.b = some z.x
  | [], _, _, hz => nomatch hz
  | y :: ys, hd, z, hz => by
    simp only [List.map_cons, distinct, Bool.and_eq_true, Bool.not_eq_true', List.contains_eq_mem, decide_eq_false_iff_not] at hd
    simp only [List.map_cons, lookBlk]
    rcases List.mem_cons.1 hz with rfl | hz
    · simp
    · have : (y.b == z.b) = false := by
        simp only [beq_eq_false_iff_ne]
        exact fun e => hd.1 (e ▸ List.mem_map_of_mem hz)
      simp only [this, Bool.false_eq_true, if_false]
      exact lookBlk_ents hd.2 hz

theorem act_getD {args : List Value} {n t : Nat} (h : t < args.length) : (args.toArray ++ Array.replicate (n - args.toArray.size) Go.undef).getD t Go.undef = args[t] := by
  rw [Array.getD_eq_getD_getElem?, Array.getElem?_append_left (by simpa using h)]
  simp [h]

theorem fn_ok {P : Program} {G : List Nat} {Γ : Nat → List D → List D} {sigs : Nat → Option Sig} {pre : Nat → List D → Prop} {env : World → Prop} {f : Nat} {sg : Sig} {heads : List Head} {peel clean : List Nat} {fuel : Nat}
    {Γf : List D → List D} {pref : List D → Prop} (hmix : P.follows .mixedOrders = true) {fn : Func} (hf : P.funcs[f]? = some fn) (hname : (fn.name == "runtime.NumGoroutine") = false) (hbody : fn.body.isNone = false)
    (hsums : ∀ f sg, sigs f = some sg → SummOk P G env f sg (Γ f) (pre f)) (hkeeps : ∀ w w' : World, (∀ k ∈ G, w'.heap[k]? = w.heap[k]?) → env w → env w')
    (hev : ∀ ds, pref ds → ∃ n, ev Γ pre n [] ds (symFn P sigs fn sg heads peel clean fuel) fun out => out = Γf ds) : SummOk P G env f sg Γf pref := by
  refine ⟨⟨fn, hf, hname, hbody⟩, ?_⟩
  intro w args ds ro M A X hin hnd hro hAX hXs hGX henv hpre
  obtain ⟨code, hcode⟩ : ∃ c, fn.body = some c := by
    cases hb : fn.body with
    | none => rw [hb] at hbody; simp at hbody
    | some c => exact ⟨c, rfl⟩
  obtain ⟨n, hev⟩ := hev ds hpre
  simp only [symFn, hcode] at hev
  by_cases hck : (sigOk sg && decide (sg.params.length ≤ fn.ntmps)) = true
  case neg => rw [if_neg hck, ev] at hev; exact hev.elim
  rw [if_pos hck] at hev
  simp only [Bool.and_eq_true, decide_eq_true_eq] at hck
  obtain ⟨hsok, hnt⟩ := hck
  have hl60 : ∀ k ∈ sg.params, match k with
      | .val ts _ => ts.length < 60
      | .box ts => ts.length < 60 := fun k hk => by
    simp only [sigOk, Bool.and_eq_true, List.all_eq_true] at hsok
    have := hsok.2 k hk
    cases k <;> simp only [Bool.and_eq_true, decide_eq_true_eq] at this
    · exact this.2
    · exact this.1
  obtain ⟨hn, hal, zs, cells, hcl, hz1, hz2, hz3, hz4⟩ := start_ok (t := 0) (i := 0) hin hl60
  let B : Base := { w0 := w, M := M, A := A, nt := fn.ntmps, env := env, given := fun i => cells.getD i Go.undef, fix := (zs.filter fun z => (fixNames 0 sg.params).contains z.b).map fun z => (z.b, z.l.hdr, z.l.blk) }
  have hgiven : ∀ j v, cells[j]? = some v → B.given (0 + j) = v := fun j v hj => by
    show cells.getD (0 + j) Go.undef = v
    rw [Nat.zero_add, List.getD_eq_getElem?_getD, hj]; rfl
  have hfx : FixOk w B 0 0 sg.params args := hz3 B (fun z hz hm => List.mem_map.2 ⟨z, List.mem_filter.2 ⟨hz, by simpa using hm⟩, rfl⟩) hgiven
  let c : Ctx := { Γ := Γ, given := B.given, ρ := ds, hp := (start 0 0 sg.params).1.blk, L := ⟨fun b => match zs.find? (fun z => z.b == b) with
    | some z => z.l
    | none => ⟨0, .nilIface, []⟩, X⟩, w := w }
  have hpz : ∀ z ∈ zs, c.hp z.b = some z.x := fun z hz => by
    show lookBlk (start 0 0 sg.params).1.heap z.b = some z.x
    rw [← hz1]
    exact lookBlk_ents hz2.dist hz
  have hLz : ∀ z ∈ zs, c.L z.b = z.l := fun z hz => by
    show (match zs.find? (fun y => y.b == z.b) with
      | some z => z.l
      | none => ⟨0, .nilIface, []⟩) = z.l
    cases hfd : zs.find? (fun y => y.b == z.b) with
    | none =>
      have := List.find?_eq_none.1 hfd z hz
      simp at this
    | some y =>
      have h1 := List.find?_some hfd
      simp only [beq_iff_eq] at h1
      rw [distinct_inj hz2.dist (List.mem_of_find?_eq_some hfd) hz h1]
  have hzof : ∀ b x, c.hp b = some x → ∃ z ∈ zs, z.b = b ∧ z.x = x := fun b x hx => by
    have := lookBlk_mem (l := (start 0 0 sg.params).1.heap) hx
    rw [← hz1] at this
    obtain ⟨z, hz, e⟩ := List.mem_map.1 this
    simp only [Prod.mk.injEq] at e
    exact ⟨z, hz, e.1, e.2⟩
  have hMA : ∀ k ∈ M, k ∈ A := argsIn_sub hin
  have hsubA : ∀ z ∈ zs, ∀ k ∈ z.o, k ∈ A := fun z hz k hk => hz2.sub.subset (flat_mem hz hk)
  have hflat : (zs.map Ent.o).flatten.Nodup := hz2.sub.nodup hnd
  have hperm : ∀ k ∈ ro, Perm c.hp c.L k := fun k hk => ⟨fun b x hx hm => by
    obtain ⟨z, hz, rfl, rfl⟩ := hzof b x hx
    rw [hLz z hz] at hm
    exact (hro k hk).1 (hz2.hard z hz k hm), (hro k hk).2⟩
  have hfirst : First w c zs ro := ⟨rfl, fun z hz => ⟨hpz z hz, hLz z hz⟩, hperm⟩
  obtain ⟨hslots, hblks⟩ := hz4 c hfirst (fun j d hj => by
    show ds.getD (0 + j) default = d
    rw [Nat.zero_add, List.getD_eq_getElem?_getD, hj]; rfl) hgiven hnd
  let act : Act := { tmps := args.toArray ++ Array.replicate (fn.ntmps - args.toArray.size) Go.undef, defers := [] }
  have hsim : Sim B c (start 0 0 sg.params).1.slot act := {
    tmps := by
      show (args.toArray ++ Array.replicate (fn.ntmps - args.toArray.size) Go.undef).size = fn.ntmps
      simp; omega
    defs := rfl
    slots := fun t => by
      show AVOk c (lookAV (start 0 0 sg.params).1.slots t) _
      rcases hslots t with h | ⟨j, v, e1, e2, e3⟩
      · rw [h]; trivial
      · rw [Nat.zero_add] at e1
        subst e1
        have hj : t < args.length := by
          rcases Nat.lt_or_ge t args.length with h | h
          · exact h
          · simp [List.getElem?_eq_none h] at e2
        have : act.tmps.getD t Go.undef = v := by
          show (args.toArray ++ Array.replicate (fn.ntmps - args.toArray.size) Go.undef).getD t Go.undef = v
          rw [act_getD hj]
          rw [List.getElem?_eq_getElem hj] at e2
          simpa using e2
        rw [this]; exact e3
    blks := fun b x hx => by
      obtain ⟨z, hz, rfl, rfl⟩ := hzof b x hx
      rw [hLz z hz]
      exact hblks z hz
    disj := fun b b' x x' hne hx hx' k hk hk' => by
      obtain ⟨z, hz, rfl, rfl⟩ := hzof b x hx
      obtain ⟨z', hz', rfl, rfl⟩ := hzof b' x' hx'
      rw [hLz z hz] at hk
      rw [hLz z' hz'] at hk'
      exact flat_apart hflat hz hz' (fun e => hne (by rw [e])) k (hz2.acc z hz k hk) (hz2.acc z' hz' k hk')
    frame := ⟨rfl, rfl, rfl, Nat.le_refl _, fun _ _ _ => rfl⟩
    low := fun b x hx k hk => by
      obtain ⟨z, hz, rfl, rfl⟩ := hzof b x hx
      rw [hLz z hz] at hk
      exact .inr (hz2.hard z hz k hk)
    lowA := fun b x hx k hk => by
      obtain ⟨z, hz, rfl, rfl⟩ := hzof b x hx
      rw [hLz z hz] at hk
      exact .inr (hsubA z hz k (hz2.acc z hz k hk))
    apart := fun b x hx k hk => by
      obtain ⟨z, hz, rfl, rfl⟩ := hzof b x hx
      rw [hLz z hz] at hk
      exact hAX k (hsubA z hz k (hz2.acc z hz k hk))
    old := hXs
    given := rfl
    fixed := fun y hy => by
      obtain ⟨z, hz, rfl⟩ := List.mem_map.1 hy
      have hz := (List.mem_filter.1 hz).1
      refine ⟨z.x, hpz z hz, ?_⟩
      rw [hLz z hz]
      unfold Keeps
      split
      · exact ⟨rfl, rfl⟩
      · rfl
      · trivial }
  have hset : Setting P G B Γ sigs pre := ⟨hsums, hkeeps, henv, fun k hk => ⟨hXs k (hGX k hk), fun hm => hAX k (hMA k hm) (hGX k hk)⟩⟩
  have hat : At B Γ ds X (start 0 0 sg.params).1.slot (start 0 0 sg.params).1.blk act w := ⟨c, rfl, rfl, rfl, rfl, rfl, hsim⟩
  refine calls_of_goes hf hcode (sym_ok (Q := bodyPost P fn fun e w' => ∃ v, e = .returned v ∧ Came sg w args M A X (Γf ds) v w') hset hGX hmix (fn := ⟨fn.ntmps, fn.results.toList, sg, heads, peel, clean⟩) rfl (fun y hy => ?_) (Qd := fun out => out = Γf ds) ?_ n fuel _ [] _ _ ds [] act w (by rw [hn, Nat.zero_add]) .nil hev hat)
  · obtain ⟨z, hz, rfl⟩ := List.mem_map.1 hy
    simpa using (List.mem_filter.1 hz).2
  -- at the end
  intro s ρ a w' es hat hret hout
  obtain ⟨c', rfl, rfl, rfl, rfl, hhp, sim⟩ := hat
  unfold retT at hret
  split at hret
  · simp at hret
  rename_i es1 used1 h1
  split at hret
  · simp at hret
  rename_i es2 used2 h2
  simp only [T.ret.injEq] at hret
  subst hret
  simp only at h1 h2
  rw [← hhp] at h1 h2
  obtain ⟨u1, vs, new1, H1, O1, R1, k1, k2, k3, k4⟩ := retVals_ok sim h1 UInv.nil
  simp only at u1 k2 k3
  obtain ⟨u2, new2, H2, O2, R2, q1, q2, q3, q4⟩ := retParams_ok sim sim.given hfx h2 u1
  simp only at u2 q1 q2
  obtain ⟨v, hres, hrv⟩ := results_run (P := P) k1
  rw [List.append_nil] at k2
  have hq : UInv (new2 ++ new1) := by rw [← k2, ← q1]; exact u2
  obtain ⟨d1, d2, _⟩ := hq.split
  have hh := k4.append sim q3 (fun x hx => ⟨fun hm => (d1 x hm).1 hx, d2 x hx⟩) fun x hx => (d1 x hx).2
  have hcame : Came sg w args M A c'.L.X (Γf ds) v c'.w := {
    kept := ⟨sim.frame.os, sim.frame.tape, sim.frame.output, sim.frame.size, sim.frame.block⟩
    cells := q4
    res := by
      refine ⟨vs, c'.dens es1, c'.dens es2, H1, O1, R1, H2, O2, R2, hrv, ?_, k3, q2, hh.nodup, fun k hk => ?_, fun k hk => ?_, fun k hk => ⟨hh.apart k hk, fun hX => ?_⟩⟩
      · rw [← hout, ← dens_append]; rfl
      · obtain ⟨b, _, x, e1, e2⟩ := hh.own k hk
        exact sim.lowA b x e1 k e2
      · obtain ⟨b, _, x, e1, e2⟩ := hh.hard k hk
        exact sim.low b x e1 k e2
      · rcases hh.read k hk with h | ⟨b, _, x, e1, e2⟩
        · exact h.2 hX
        · exact sim.apart b x e1 k e2 hX }
  exact ⟨⟨sim.defs, v, hres, v, rfl, hcame⟩, ⟨sim.defs, v, hres, v, rfl, hcame⟩⟩

end Go.Sx
