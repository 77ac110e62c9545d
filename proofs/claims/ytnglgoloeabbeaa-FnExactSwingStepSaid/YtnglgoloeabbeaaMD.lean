/-
  The machine, part D: what a symbolic state says of a frame and a world, and what keeps it true.
-/
import Derived.Test.YtnglgoloeabbeaaMC
namespace Go.Sx
open Go Go.RowKit

/-- Where a block lies: a box's block; a row's header, its block, and the blocks below. -/
structure Loc where
  blk : Nat
  hdr : Value
  fp : List Nat

def Loc.top (l : Loc) : List Nat := match l.hdr with
  | .slice (some _) _ _ => [l.blk]
  | _ => []

/-- The blocks that may turn yet. -/
def hard (x : Blk) (l : Loc) : List Nat := match x with
  | .box _ _ => [l.blk]
  | .row _ _ _ _ _ clean true => l.top ++ (if clean then l.fp else [])
  | _ => []
/-- The blocks that are this one's alone. -/
def acc (x : Blk) (l : Loc) : List Nat := match x with
  | .box _ _ => [l.blk]
  | .row _ _ _ _ own _ true => l.top ++ (if own then l.fp else [])
  | _ => []

/-- Where all lie; and the blocks that others may write. -/
structure Locs where
  f : Nat → Loc
  X : Nat → Prop
instance : CoeFun Locs fun _ => Nat → Loc := ⟨Locs.f⟩

/-- A block that nobody writes any more. -/
def Perm (hp : Nat → Option Blk) (L : Locs) (k : Nat) : Prop := (∀ b x, hp b = some x → k ∉ hard x (L b)) ∧ ¬ L.X k

/-- A part of a header. -/
def partOf (ts : List Ty) (hdr : Value) (l h : Nat) (v : Value) : Prop := match hdr with
  | .slice a len cap => l ≤ h ∧ h ≤ len ∧ len ≤ cap ∧ v = .slice (if cap = l then a else a.map (·.add (l * ts.length))) (h - l) (cap - l)
  | _ => False

def slV (v : Value) : Prop := ∃ p n k, v = .slice p n k
def ptV (v : Value) : Prop := ∃ b o, v = .pointer (some ⟨b, o, none⟩)

structure Ctx where
  Γ : Nat → List D → List D
  given : Nat → Value
  ρ : List D
  hp : Nat → Option Blk
  L : Locs
  w : World

def Ctx.den (c : Ctx) (e : E) : D := Sx.den c.Γ c.ρ e

/-- The cell of an element of a row. -/
def Ctx.cellAt (c : Ctx) (b : Nat) (ts : List Ty) (n j : Nat) (v : Value) : Prop :=
  ∃ o len cap, (c.L b).hdr = .slice (some ⟨(c.L b).blk, o, none⟩) len cap ∧ n < len ∧ c.w.cell? ⟨(c.L b).blk, o + n * ts.length + j, none⟩ = some v

mutual
def AVOk (c : Ctx) : AV → Value → Prop
  | .undef, _ => True
  | .skip, v => v = Go.undef
  | .sc t e, v => isSl t = false ∧ Rep c.w false t v (c.den e) []
  | .nil, v => v = .slice none 0 0
  | .ro ts e, v => ∃ fp, Rep c.w false (.sl ts) v (c.den e) fp ∧ ∀ k ∈ fp, Perm c.hp c.L k
  | .orig ts i, v => v = c.given i ∧ ∃ fp, Rep c.w false (.sl ts) v (c.den (.var i)) fp ∧ ∀ k ∈ fp, Perm c.hp c.L k
  | .row b g, v => slV v ∧ g < gen (c.hp b) ∧ ∀ u ts e own clean live, c.hp b = some (.row g u ts e own clean live) → v = (c.L b).hdr
  | .part b g lo hi, v => slV v ∧ g < gen (c.hp b) ∧ ∀ u ts e own clean live, c.hp b = some (.row g u ts e own clean live) →
      ∃ l h : Nat, c.den lo = .int l ∧ c.den hi = .int h ∧ partOf ts (c.L b).hdr l h v
  | .under b g u i j ts, v => slV v ∧ g < gen (c.hp b) ∧ ∀ u' tsr e own clean, c.hp b = some (.row g u' tsr e own clean true) → u ≤ u' ∧
      (u' = u → tsr[j]? = some (.sl ts) ∧ ∃ n : Nat, c.den i = .int n ∧ c.cellAt b tsr n j v)
  | .ptr b g off, v => ptV v ∧ g < gen (c.hp b) ∧ ∀ cells, c.hp b = some (.box g cells) → v = .pointer (some ⟨(c.L b).blk, off, none⟩)
  | .eptr b g i j, v => ptV v ∧ g < gen (c.hp b) ∧ ∀ u ts e own clean live, c.hp b = some (.row g u ts e own clean live) →
      ∃ n : Nat, c.den i = .int n ∧ ∃ o len cap, (c.L b).hdr = .slice (some ⟨(c.L b).blk, o, none⟩) len cap ∧ n < len ∧ v = .pointer (some ⟨(c.L b).blk, o + n * ts.length + j, none⟩)
  | .rptr ts e i j, v => ∃ (b o : Nat) (vs : List Value) (fp : List Nat) (d : List D) (n : Nat), c.den i = .int n ∧ (c.den e).l[n]? = some d ∧
      v = .pointer (some ⟨b, o + j, none⟩) ∧ Holds c.w b o vs ∧ RepC c.w false ts vs d fp ∧ (∀ k ∈ b :: fp, Perm c.hp c.L k) ∧ b < c.w.heap.size
  | .uptr b g u i j ts k m, v => ptV v ∧ g < gen (c.hp b) ∧ ∀ u' tsr e own clean, c.hp b = some (.row g u' tsr e own clean true) → u ≤ u' ∧
      (u' = u → tsr[j]? = some (.sl ts) ∧ ∃ n n' : Nat, c.den i = .int n ∧ c.den k = .int n' ∧
        ∃ vb vo vlen vcap, c.cellAt b tsr n j (.slice (some ⟨vb, vo, none⟩) vlen vcap) ∧ n' < vlen ∧ v = .pointer (some ⟨vb, vo + n' * ts.length + m, none⟩))
  | .agg l, v => ∃ vs : List Value, v = .agg vs.toArray ∧ AVsOk c l vs
  | .tup l, v => ∃ vs : List Value, v = .tuple vs.toArray ∧ AVsOk c l vs
  | .maybe g a, v => ((c.den g).b = true → AVOk c a v) ∧ ((c.den g).b = false → v = Go.undef)
def AVsOk (c : Ctx) : List AV → List Value → Prop
  | [], [] => True
  | a :: as, v :: vs => AVOk c a v ∧ AVsOk c as vs
  | _, _ => False
end

def RowOk (c : Ctx) (ts : List Ty) (d : List (List D)) (own live : Bool) (l : Loc) : Prop :=
  (l.hdr = .slice none 0 0 ∧ d = [] ∧ l.fp = []) ∨
  ∃ o len cap vs, l.hdr = .slice (some ⟨l.blk, o, none⟩) len cap ∧ Holds c.w l.blk o vs ∧ d.length = len ∧ len ≤ cap ∧ cap < 9223372036854775808 ∧
    (live = true → Opn c.w l.blk (o + cap * ts.length)) ∧ l.blk < c.w.heap.size ∧ RepL c.w own ts vs d l.fp

def BlkOk (c : Ctx) (x : Blk) (l : Loc) : Prop := match x with
  | .box _ cells => ∃ vs T, c.w.heap[l.blk]? = some (.cells (List.toArray vs) T (0, 0)) ∧ AVsOk c cells vs
  | .row _ _ ts e own clean live => (∃ d, c.den e = .sl d ∧ RowOk c ts d own live l) ∧
      (live = false → ∀ k ∈ l.top ++ l.fp, Perm c.hp c.L k) ∧ (live = true → own = false → ∀ k ∈ l.fp, Perm c.hp c.L k) ∧
      (live = true → own = true → (l.top ++ l.fp).Nodup) ∧ (clean = true → own = true)
  | .gone _ => True

theorem hard_acc {c : Ctx} {x : Blk} {l : Loc} (h : BlkOk c x l) : ∀ k ∈ hard x l, k ∈ acc x l := by
  cases x with
  | box g cells => exact fun k hk => hk
  | gone g => exact fun k hk => nomatch hk
  | row g u ts e own clean live =>
    cases live with
    | false => exact fun k hk => nomatch hk
    | true =>
      intro k hk
      simp only [hard, acc] at *
      rcases List.mem_append.1 hk with hk | hk
      · exact List.mem_append_left _ hk
      · cases clean with
        | false => exact nomatch hk
        | true => rw [h.2.2.2.2 rfl]; exact List.mem_append_right _ hk

/-! ### From one state to the next -/

/-- What turns between two states: the names in 'W' alone, and of the memory only what was theirs to turn. -/
structure Step (c c' : Ctx) (W : List Nat) : Prop where
  foreign : c'.L.X = c.L.X
  Γ : c'.Γ = c.Γ
  given : c'.given = c.given
  ρ : c'.ρ = c.ρ
  size : c.w.heap.size ≤ c'.w.heap.size
  same : ∀ b, b ∉ W → c'.hp b = c.hp b ∧ c'.L b = c.L b
  mem : ∀ k, k < c.w.heap.size → (∀ b ∈ W, ∀ x, c.hp b = some x → k ∉ hard x (c.L b)) → c'.w.heap[k]? = c.w.heap[k]?
  gens : ∀ b ∈ W, gen (c.hp b) ≤ gen (c'.hp b)
  hard : ∀ b ∈ W, ∀ x', c'.hp b = some x' → ∀ k ∈ hard x' (c'.L b), k < c.w.heap.size → ∃ b0 ∈ W, ∃ x, c.hp b0 = some x ∧ k ∈ Sx.hard x (c.L b0)
  row : ∀ b ∈ W, ∀ g u' ts' e' own' clean' live', g < gen (c.hp b) → c'.hp b = some (.row g u' ts' e' own' clean' live') →
    ∃ u e own clean live, c.hp b = some (.row g u ts' e own clean live) ∧ (c'.L b).hdr = (c.L b).hdr ∧ (c'.L b).blk = (c.L b).blk ∧ (live' = true → live = true) ∧
      (live' = true → u ≤ u' ∧ (u' = u → ∀ n j ts v, ts'[j]? = some (.sl ts) → c.cellAt b ts' n j v → c'.cellAt b ts' n j v))
  box : ∀ b ∈ W, ∀ g cells', g < gen (c.hp b) → c'.hp b = some (.box g cells') → ∃ cells, c.hp b = some (.box g cells) ∧ (c'.L b).blk = (c.L b).blk

section
variable {c c' : Ctx} {W : List Nat}

theorem Step.den (h : Step c c' W) (e : E) : c'.den e = c.den e := by unfold Ctx.den; rw [h.Γ, h.ρ]

theorem Step.genLe (h : Step c c' W) (b : Nat) : gen (c.hp b) ≤ gen (c'.hp b) := by
  by_cases hb : b ∈ W
  · exact h.gens b hb
  · rw [(h.same b hb).1]; exact Nat.le_refl _

/-- What does not turn any more lies still. -/
theorem Step.still (h : Step c c' W) {k : Nat} (hk : k < c.w.heap.size) (hp : Perm c.hp c.L k) : c'.w.heap[k]? = c.w.heap[k]? :=
  h.mem k hk fun b _ x hx => hp.1 b x hx

theorem Step.perm (h : Step c c' W) {k : Nat} (hk : k < c.w.heap.size) (hp : Perm c.hp c.L k) : Perm c'.hp c'.L k := by
  refine ⟨?_, by rw [h.foreign]; exact hp.2⟩
  intro b x hx hm
  by_cases hb : b ∈ W
  · obtain ⟨b0, _, x0, h1, h2⟩ := h.hard b hb x hx k hm hk
    exact hp.1 b0 x0 h1 h2
  · obtain ⟨e1, e2⟩ := h.same b hb
    rw [e1] at hx; rw [e2] at hm
    exact hp.1 b x hx hm

theorem Step.rowRef (h : Step c c' W) {b g : Nat} (hg : g < gen (c.hp b)) {u' ts' e' own' clean' live'} (hx : c'.hp b = some (.row g u' ts' e' own' clean' live')) :
    ∃ u e own clean live, c.hp b = some (.row g u ts' e own clean live) ∧ (c'.L b).hdr = (c.L b).hdr ∧ (c'.L b).blk = (c.L b).blk ∧ (live' = true → live = true) := by
  by_cases hb : b ∈ W
  · obtain ⟨u, e, own, clean, live, h1, h2, h3, h4, _⟩ := h.row b hb g u' ts' e' own' clean' live' hg hx
    exact ⟨u, e, own, clean, live, h1, h2, h3, h4⟩
  · obtain ⟨e1, e2⟩ := h.same b hb
    rw [e1] at hx; rw [e2]
    exact ⟨_, _, _, _, _, hx, rfl, rfl, fun h => h⟩

theorem lt_of_cell {w : World} {b o : Nat} {v : Value} (h : w.cell? ⟨b, o, none⟩ = some v) : b < w.heap.size := by
  unfold World.cell? at h
  rcases Nat.lt_or_ge b w.heap.size with h' | h'
  · exact h'
  · simp [Array.getElem?_eq_none h'] at h

/-- A block of a name that does not turn lies still. -/
theorem Step.own (h : Step c c' W) (hb : ∀ b x, c.hp b = some x → BlkOk c x (c.L b)) (hd : ∀ b b' x x', b ≠ b' → c.hp b = some x → c.hp b' = some x' → ∀ k ∈ acc x (c.L b), k ∉ acc x' (c.L b'))
    {b : Nat} {x : Blk} (hbW : b ∉ W) (hx : c.hp b = some x) {k : Nat} (hk : k ∈ acc x (c.L b)) (hlt : k < c.w.heap.size) : c'.w.heap[k]? = c.w.heap[k]? := by
  refine h.mem k hlt fun b0 hb0 x0 hx0 hm => ?_
  exact hd b b0 x x0 (fun e => hbW (e ▸ hb0)) hx hx0 k hk (hard_acc (hb b0 x0 hx0) k hm)

theorem cellAt_keep (h : Step c c' W) (hb : ∀ b x, c.hp b = some x → BlkOk c x (c.L b)) (hd : ∀ b b' x x', b ≠ b' → c.hp b = some x → c.hp b' = some x' → ∀ k ∈ acc x (c.L b), k ∉ acc x' (c.L b'))
    {b : Nat} {g u : Nat} {ts : List Ty} {e : E} {own clean : Bool} (hbW : b ∉ W) (hx : c.hp b = some (.row g u ts e own clean true)) {n j : Nat} {v : Value} (hc : c.cellAt b ts n j v) : c'.cellAt b ts n j v := by
  obtain ⟨o, len, cap, h1, h2, h3⟩ := hc
  unfold Ctx.cellAt
  rw [(h.same b hbW).2]
  refine ⟨o, len, cap, h1, h2, ?_⟩
  rw [cell_of_heap (h.own hb hd hbW hx (k := (c.L b).blk) ?_ (lt_of_cell h3)), h3]
  simp [acc, Loc.top, h1]

mutual
theorem AVOk.step (h : Step c c' W) (hb : ∀ b x, c.hp b = some x → BlkOk c x (c.L b)) (hd : ∀ b b' x x', b ≠ b' → c.hp b = some x → c.hp b' = some x' → ∀ k ∈ acc x (c.L b), k ∉ acc x' (c.L b')) :
    ∀ (a : AV) (v : Value), AVOk c a v → AVOk c' a v
  | .undef, _, _ => trivial
  | .skip, _, hv => hv
  | .sc t e, v, hv => ⟨hv.1, by rw [h.den]; exact hv.2.alike fun k hk => nomatch hk⟩
  | .nil, _, hv => hv
  | .ro ts e, v, hv => by
    obtain ⟨fp, h1, h2⟩ := hv
    exact ⟨fp, by rw [h.den]; exact h1.alike fun k hk => h.still (h1.lt k hk) (h2 k hk), fun k hk => h.perm (h1.lt k hk) (h2 k hk)⟩
  | .orig ts i, v, hv => by
    obtain ⟨hg, fp, h1, h2⟩ := hv
    exact ⟨by rw [h.given]; exact hg, fp, by rw [h.den]; exact h1.alike fun k hk => h.still (h1.lt k hk) (h2 k hk), fun k hk => h.perm (h1.lt k hk) (h2 k hk)⟩
  | .row b g, v, hv => by
    refine ⟨hv.1, Nat.lt_of_lt_of_le hv.2.1 (h.genLe b), fun u ts e own clean live hx => ?_⟩
    obtain ⟨_, _, _, _, _, h1, h2, _⟩ := h.rowRef hv.2.1 hx
    rw [h2]; exact hv.2.2 _ _ _ _ _ _ h1
  | .part b g lo hi, v, hv => by
    refine ⟨hv.1, Nat.lt_of_lt_of_le hv.2.1 (h.genLe b), fun u ts e own clean live hx => ?_⟩
    obtain ⟨_, _, _, _, _, h1, h2, _⟩ := h.rowRef hv.2.1 hx
    obtain ⟨l, hh, a1, a2, a3⟩ := hv.2.2 _ _ _ _ _ _ h1
    exact ⟨l, hh, by rw [h.den]; exact a1, by rw [h.den]; exact a2, by rw [h2]; exact a3⟩
  | .under b g u i j ts, v, hv => by
    refine ⟨hv.1, Nat.lt_of_lt_of_le hv.2.1 (h.genLe b), fun u' tsr e own clean hx => ?_⟩
    by_cases hbW : b ∈ W
    · obtain ⟨u0, e0, own0, clean0, live0, h1, h2, h3, h4, h5⟩ := h.row b hbW g u' tsr e own clean true hv.2.1 hx
      have hl := h4 rfl
      subst hl
      obtain ⟨a1, a2⟩ := hv.2.2 _ _ _ _ _ h1
      obtain ⟨b1, b2⟩ := h5 rfl
      refine ⟨Nat.le_trans a1 b1, fun hu => ?_⟩
      have e1 : u0 = u := by omega
      obtain ⟨c1, n, c2, c3⟩ := a2 e1
      exact ⟨c1, n, by rw [h.den]; exact c2, b2 (by omega) _ _ _ _ c1 c3⟩
    · obtain ⟨e1, e2⟩ := h.same b hbW
      rw [e1] at hx
      obtain ⟨a1, a2⟩ := hv.2.2 _ _ _ _ _ hx
      refine ⟨a1, fun hu => ?_⟩
      obtain ⟨c1, n, c2, c3⟩ := a2 hu
      exact ⟨c1, n, by rw [h.den]; exact c2, (cellAt_keep h hb hd hbW hx c3)⟩
  | .ptr b g off, v, hv => by
    refine ⟨hv.1, Nat.lt_of_lt_of_le hv.2.1 (h.genLe b), fun cells hx => ?_⟩
    by_cases hbW : b ∈ W
    · obtain ⟨cs, h1, h2⟩ := h.box b hbW g cells hv.2.1 hx
      rw [h2]; exact hv.2.2 _ h1
    · obtain ⟨e1, e2⟩ := h.same b hbW
      rw [e1] at hx; rw [e2]
      exact hv.2.2 _ hx
  | .eptr b g i j, v, hv => by
    refine ⟨hv.1, Nat.lt_of_lt_of_le hv.2.1 (h.genLe b), fun u ts e own clean live hx => ?_⟩
    obtain ⟨_, _, _, _, _, h1, h2, h3, _⟩ := h.rowRef hv.2.1 hx
    obtain ⟨n, a1, a2⟩ := hv.2.2 _ _ _ _ _ _ h1
    exact ⟨n, by rw [h.den]; exact a1, by rw [h2, h3]; exact a2⟩
  | .rptr ts e i j, v, hv => by
    obtain ⟨b, o, vs, fp, d, n, a1, a2, a3, a4, a5, a6, a7⟩ := hv
    refine ⟨b, o, vs, fp, d, n, by rw [h.den]; exact a1, by rw [h.den]; exact a2, a3, a4.alike (h.still a7 (a6 _ (List.mem_cons_self ..))),
      a5.alike fun k hk => h.still (a5.lt k hk) (a6 _ (List.mem_cons_of_mem _ hk)), fun k hk => ?_, Nat.lt_of_lt_of_le a7 h.size⟩
    rcases List.mem_cons.1 hk with rfl | hk'
    · exact h.perm a7 (a6 _ hk)
    · exact h.perm (a5.lt k hk') (a6 _ hk)
  | .uptr b g u i j ts k m, v, hv => by
    refine ⟨hv.1, Nat.lt_of_lt_of_le hv.2.1 (h.genLe b), fun u' tsr e own clean hx => ?_⟩
    by_cases hbW : b ∈ W
    · obtain ⟨u0, e0, own0, clean0, live0, h1, h2, h3, h4, h5⟩ := h.row b hbW g u' tsr e own clean true hv.2.1 hx
      have hl := h4 rfl
      subst hl
      obtain ⟨a1, a2⟩ := hv.2.2 _ _ _ _ _ h1
      obtain ⟨b1, b2⟩ := h5 rfl
      refine ⟨Nat.le_trans a1 b1, fun hu => ?_⟩
      have e1 : u0 = u := by omega
      obtain ⟨c1, n, n', c2, c2', vb, vo, vlen, vcap, c3, c4⟩ := a2 e1
      exact ⟨c1, n, n', by rw [h.den]; exact c2, by rw [h.den]; exact c2', vb, vo, vlen, vcap, b2 (by omega) _ _ _ _ c1 c3, c4⟩
    · obtain ⟨e1, e2⟩ := h.same b hbW
      rw [e1] at hx
      obtain ⟨a1, a2⟩ := hv.2.2 _ _ _ _ _ hx
      refine ⟨a1, fun hu => ?_⟩
      obtain ⟨c1, n, n', c2, c2', vb, vo, vlen, vcap, c3, c4⟩ := a2 hu
      exact ⟨c1, n, n', by rw [h.den]; exact c2, by rw [h.den]; exact c2', vb, vo, vlen, vcap, cellAt_keep h hb hd hbW hx c3, c4⟩
  | .agg l, v, hv => by
    obtain ⟨vs, h1, h2⟩ := hv
    exact ⟨vs, h1, AVsOk.step h hb hd l vs h2⟩
  | .tup l, v, hv => by
    obtain ⟨vs, h1, h2⟩ := hv
    exact ⟨vs, h1, AVsOk.step h hb hd l vs h2⟩
  | .maybe g a, v, hv => ⟨fun hg => AVOk.step h hb hd a v (hv.1 (by rw [← h.den]; exact hg)), fun hg => hv.2 (by rw [← h.den]; exact hg)⟩
theorem AVsOk.step (h : Step c c' W) (hb : ∀ b x, c.hp b = some x → BlkOk c x (c.L b)) (hd : ∀ b b' x x', b ≠ b' → c.hp b = some x → c.hp b' = some x' → ∀ k ∈ acc x (c.L b), k ∉ acc x' (c.L b')) :
    ∀ (l : List AV) (vs : List Value), AVsOk c l vs → AVsOk c' l vs
  | [], [], _ => trivial
  | a :: as, v :: vs, hv => ⟨AVOk.step h hb hd a v hv.1, AVsOk.step h hb hd as vs hv.2⟩
  | [], _ :: _, hv => hv.elim
  | _ :: _, [], hv => hv.elim
end

theorem Step.permL (h : Step c c' W) {ks : List Nat} (hlt : ∀ k ∈ ks, k < c.w.heap.size) (hp : ∀ k ∈ ks, Perm c.hp c.L k) : ∀ k ∈ ks, Perm c'.hp c'.L k :=
  fun k hk => h.perm (hlt k hk) (hp k hk)

theorem BlkOk.step (h : Step c c' W) (hb : ∀ b x, c.hp b = some x → BlkOk c x (c.L b)) (hd : ∀ b b' x x', b ≠ b' → c.hp b = some x → c.hp b' = some x' → ∀ k ∈ acc x (c.L b), k ∉ acc x' (c.L b'))
    {b : Nat} {x : Blk} (hbW : b ∉ W) (hx : c.hp b = some x) : BlkOk c' x (c.L b) := by
  have hok := hb b x hx
  cases x with
  | gone g => trivial
  | box g cells =>
    obtain ⟨vs, T, h1, h2⟩ := hok
    refine ⟨vs, T, ?_, AVsOk.step h hb hd _ _ h2⟩
    rw [h.own hb hd hbW hx (k := (c.L b).blk) (by simp [acc]) (lt_of_get h1), h1]
  | row g u ts e own clean live =>
    obtain ⟨⟨d, h0, h1⟩, h2, h3, h4, h5⟩ := hok
    have htop : ∀ k ∈ (c.L b).top, k < c.w.heap.size ∧ c'.w.heap[k]? = c.w.heap[k]? := by
      intro k hk
      rcases h1 with ⟨e1, _⟩ | ⟨o, len, cap, vs, e1, _, _, _, _, _, e2, _⟩
      · simp [Loc.top, e1] at hk
      · have hk' : k = (c.L b).blk := by simpa [Loc.top, e1] using hk
        subst hk'
        refine ⟨e2, ?_⟩
        cases live with
        | true => exact h.own hb hd hbW hx (by simp [acc, Loc.top, e1]) e2
        | false => exact h.still e2 (h2 rfl _ (List.mem_append_left _ hk))
    have hfp : ∀ k ∈ (c.L b).fp, k < c.w.heap.size ∧ c'.w.heap[k]? = c.w.heap[k]? := by
      intro k hk
      have hlt : k < c.w.heap.size := by
        rcases h1 with ⟨_, _, e1⟩ | ⟨o, len, cap, vs, e1, _, _, _, _, _, e2, e3⟩
        · simp [e1] at hk
        · exact e3.lt k hk
      refine ⟨hlt, ?_⟩
      cases live with
      | false => exact h.still hlt (h2 rfl _ (List.mem_append_right _ hk))
      | true =>
        cases own with
        | false => exact h.still hlt (h3 rfl rfl _ hk)
        | true => exact h.own hb hd hbW hx (by simp [acc]; exact .inr hk) hlt
    refine ⟨⟨d, by rw [h.den]; exact h0, ?_⟩, fun hl => ?_, fun hl ho k hk => h.perm (hfp k hk).1 (h3 hl ho k hk), h4, h5⟩
    · rcases h1 with h1 | ⟨o, len, cap, vs, e1, e2, e3, e4, e5, e6, e7, e8⟩
      · exact .inl h1
      · have ht := htop (c.L b).blk (by simp [Loc.top, e1])
        exact .inr ⟨o, len, cap, vs, e1, e2.alike ht.2, e3, e4, e5, fun hl => (e6 hl).alike ht.2, Nat.lt_of_lt_of_le e7 h.size, e8.alike fun k hk => (hfp k hk).2⟩
    · intro k hk
      rcases List.mem_append.1 hk with hk' | hk'
      · exact h.perm (htop k hk').1 (h2 hl k hk)
      · exact h.perm (hfp k hk').1 (h2 hl k hk)
end

/-- What stays fixed during a call: what the blocks were when it began, which of them it may turn, how many slots there are. -/
structure Base where
  w0 : World
  M : List Nat
  A : List Nat
  nt : Nat
  env : World → Prop
  given : Nat → Value
  fix : List (Nat × Value × Nat)

/-- A block that has not been made anew lies where it lay. -/
def Keeps (x : Blk) (l : Loc) (h : Value) (k : Nat) : Prop := match x with
  | .row 0 _ _ _ _ _ _ => l.hdr = h ∧ l.blk = k
  | .box 0 _ => l.blk = k
  | _ => True

structure Frame0 (B : Base) (w : World) : Prop where
  os : w.os = B.w0.os
  tape : w.tape = B.w0.tape
  output : w.output = B.w0.output
  size : B.w0.heap.size ≤ w.heap.size
  block : ∀ k, k < B.w0.heap.size → k ∉ B.M → w.heap[k]? = B.w0.heap[k]?

structure Sim (B : Base) (c : Ctx) (sl : Nat → AV) (a : Act) : Prop where
  tmps : a.tmps.size = B.nt
  defs : a.defers = []
  slots : ∀ t, AVOk c (sl t) (a.tmps.getD t Go.undef)
  blks : ∀ b x, c.hp b = some x → BlkOk c x (c.L b)
  disj : ∀ b b' x x', b ≠ b' → c.hp b = some x → c.hp b' = some x' → ∀ k ∈ acc x (c.L b), k ∉ acc x' (c.L b')
  frame : Frame0 B c.w
  low : ∀ b x, c.hp b = some x → ∀ k ∈ hard x (c.L b), B.w0.heap.size ≤ k ∨ k ∈ B.M
  lowA : ∀ b x, c.hp b = some x → ∀ k ∈ acc x (c.L b), B.w0.heap.size ≤ k ∨ k ∈ B.A
  apart : ∀ b x, c.hp b = some x → ∀ k ∈ acc x (c.L b), ¬ c.L.X k
  old : ∀ k, c.L.X k → k < c.w.heap.size
  given : c.given = B.given
  fixed : ∀ y ∈ B.fix, ∃ x, c.hp y.1 = some x ∧ Keeps x (c.L y.1) y.2.1 y.2.2

/-- The step of a whole state: what is asked of the names that turn. -/
theorem Sim.step {B : Base} {c c' : Ctx} {W : List Nat} {sl sl' : Nat → AV} {a a' : Act} (s : Sim B c sl a) (h : Step c c' W)
    (tmps : a'.tmps.size = a.tmps.size) (defs : a'.defers = a.defers)
    (slots : ∀ t, (sl' t = sl t ∧ a'.tmps.getD t Go.undef = a.tmps.getD t Go.undef) ∨ AVOk c' (sl' t) (a'.tmps.getD t Go.undef))
    (blks : ∀ b ∈ W, ∀ x, c'.hp b = some x → BlkOk c' x (c'.L b))
    (accs : ∀ b ∈ W, ∀ x', c'.hp b = some x' → ∀ k ∈ acc x' (c'.L b), c.w.heap.size ≤ k ∨ ∃ b0 ∈ W, ∃ x, c.hp b0 = some x ∧ k ∈ acc x (c.L b0))
    (disj : ∀ b b' x x', b ∈ W → b' ∈ W → b ≠ b' → c'.hp b = some x → c'.hp b' = some x' → ∀ k ∈ acc x (c'.L b), k ∉ acc x' (c'.L b'))
    (frame : c'.w.os = c.w.os ∧ c'.w.tape = c.w.tape ∧ c'.w.output = c.w.output) : Sim B c' sl' a' where
  tmps := tmps.trans s.tmps
  defs := defs.trans s.defs
  slots := fun t => by
    rcases slots t with ⟨e1, e2⟩ | h'
    · rw [e1, e2]; exact AVOk.step h s.blks s.disj _ _ (s.slots t)
    · exact h'
  blks := fun b x hx => by
    by_cases hb : b ∈ W
    · exact blks b hb x hx
    · obtain ⟨e1, e2⟩ := h.same b hb
      rw [e2]; rw [e1] at hx
      exact BlkOk.step h s.blks s.disj hb hx
  disj := fun b b' x x' hne hx hx' k hk hk' => by
    have acclt : ∀ b x, c.hp b = some x → ∀ k ∈ acc x (c.L b), k < c.w.heap.size := by
      intro b x hx k hk
      have hok := s.blks b x hx
      cases x with
      | gone g => exact nomatch hk
      | box g cells => obtain ⟨vs, T, h1, _⟩ := hok; simp [acc] at hk; rw [hk]; exact lt_of_get h1
      | row g u ts e own clean live =>
        obtain ⟨⟨d, h0, h1⟩, h2, h3, h4, h5⟩ := hok
        cases live with
        | false => exact nomatch hk
        | true =>
          rcases h1 with ⟨e1, _, e2⟩ | ⟨o, len, cap, vs, e1, _, _, _, _, _, e2, e3⟩
          · simp [acc, Loc.top, e1, e2] at hk
          · simp only [acc, Loc.top, e1] at hk
            rcases List.mem_append.1 hk with hk | hk
            · rw [List.mem_singleton.1 hk]; exact e2
            · cases own with
              | false => exact nomatch hk
              | true => exact e3.lt k hk
    by_cases hb : b ∈ W <;> by_cases hb' : b' ∈ W
    · exact disj b b' x x' hb hb' hne hx hx' k hk hk'
    · obtain ⟨e1, e2⟩ := h.same b' hb'
      rw [e1] at hx'; rw [e2] at hk'
      rcases accs b hb x hx k hk with h1 | ⟨b0, hb0, x0, h1, h2⟩
      · have := acclt b' x' hx' k hk'; omega
      · exact s.disj b0 b' x0 x' (fun e => hb' (e ▸ hb0)) h1 hx' k h2 hk'
    · obtain ⟨e1, e2⟩ := h.same b hb
      rw [e1] at hx; rw [e2] at hk
      rcases accs b' hb' x' hx' k hk' with h1 | ⟨b0, hb0, x0, h1, h2⟩
      · have := acclt b x hx k hk; omega
      · exact s.disj b0 b x0 x (fun e => hb (e ▸ hb0)) h1 hx k h2 hk
    · obtain ⟨e1, e2⟩ := h.same b hb
      obtain ⟨e3, e4⟩ := h.same b' hb'
      rw [e1] at hx; rw [e2] at hk; rw [e3] at hx'; rw [e4] at hk'
      exact s.disj b b' x x' hne hx hx' k hk hk'
  frame := ⟨frame.1.trans s.frame.os, frame.2.1.trans s.frame.tape, frame.2.2.trans s.frame.output, Nat.le_trans s.frame.size h.size, fun k hk hM => by
    rw [← s.frame.block k hk hM]
    refine h.mem k (Nat.lt_of_lt_of_le hk s.frame.size) fun b _ x hx hm => ?_
    rcases s.low b x hx k hm with h1 | h1
    · omega
    · exact hM h1⟩
  low := fun b x hx k hk => by
    by_cases hb : b ∈ W
    · by_cases hlt : k < c.w.heap.size
      · obtain ⟨b0, _, x0, h1, h2⟩ := h.hard b hb x hx k hk hlt
        exact s.low b0 x0 h1 k h2
      · exact .inl (Nat.le_trans s.frame.size (by omega))
    · obtain ⟨e1, e2⟩ := h.same b hb
      rw [e1] at hx; rw [e2] at hk
      exact s.low b x hx k hk
  lowA := fun b x hx k hk => by
    by_cases hb : b ∈ W
    · rcases accs b hb x hx k hk with h1 | ⟨b0, _, x0, h1, h2⟩
      · exact .inl (Nat.le_trans s.frame.size h1)
      · exact s.lowA b0 x0 h1 k h2
    · obtain ⟨e1, e2⟩ := h.same b hb
      rw [e1] at hx; rw [e2] at hk
      exact s.lowA b x hx k hk
  apart := fun b x hx k hk hX => by
    rw [h.foreign] at hX
    by_cases hb : b ∈ W
    · rcases accs b hb x hx k hk with h1 | ⟨b0, _, x0, h1, h2⟩
      · have := s.old k hX; omega
      · exact s.apart b0 x0 h1 k h2 hX
    · obtain ⟨e1, e2⟩ := h.same b hb
      rw [e1] at hx; rw [e2] at hk
      exact s.apart b x hx k hk hX
  old := fun k hX => by
    rw [h.foreign] at hX
    exact Nat.lt_of_lt_of_le (s.old k hX) h.size
  given := h.given.trans s.given
  fixed := fun y hy => by
    obtain ⟨x, hx, hk⟩ := s.fixed y hy
    by_cases hb : y.1 ∈ W
    · have hg : 0 < gen (c.hp y.1) := by rw [hx]; cases x <;> simp [gen]
      have hg' := h.gens _ hb
      cases hx' : c'.hp y.1 with
      | none =>
        rw [hx'] at hg'
        have : gen (c.hp y.1) ≤ 0 := hg'
        omega
      | some x' =>
        refine ⟨x', rfl, ?_⟩
        cases x' with
        | gone g => trivial
        | box g cells =>
          cases g with
          | succ g => trivial
          | zero =>
            obtain ⟨cells0, h1, h2⟩ := h.box _ hb 0 cells hg hx'
            rw [h1] at hx
            simp only [Option.some.injEq] at hx
            subst hx
            exact h2.trans hk
        | row g u ts e own clean live =>
          cases g with
          | succ g => trivial
          | zero =>
            obtain ⟨u0, e0, o0, c0, l0, h1, h2, h3, _⟩ := h.row _ hb 0 u ts e own clean live hg hx'
            rw [h1] at hx
            simp only [Option.some.injEq] at hx
            subst hx
            exact ⟨h2.trans hk.1, h3.trans hk.2⟩
    · obtain ⟨e1, e2⟩ := h.same _ hb
      exact ⟨x, by rw [e1]; exact hx, by rw [e2]; exact hk⟩

theorem Step.refl (c : Ctx) : Step c c [] where
  foreign := rfl
  given := rfl
  Γ := rfl
  ρ := rfl
  size := Nat.le_refl _
  same := fun _ _ => ⟨rfl, rfl⟩
  mem := fun _ _ _ => rfl
  gens := fun _ hb => nomatch hb
  hard := fun _ hb => nomatch hb
  row := fun _ hb => nomatch hb
  box := fun _ hb => nomatch hb

/-- A value put into a slot, all else as it was. -/
theorem Sim.put {B : Base} {c : Ctx} {sl sl' : Nat → AV} {a : Act} (s : Sim B c sl a) (d : Option Nat) (hd : ∀ t, d = some t → t < B.nt) (x : AV) (v : Value)
    (hsl : sl' = fun t => if d = some t then x else sl t) (hx : d.isSome = true → AVOk c x v) : Sim B c sl' (a.put d v) := by
  have h := s.step (sl' := sl') (a' := a.put d v) (Step.refl c) (by cases d <;> simp [Act.put]) (by cases d <;> simp [Act.put]) (fun t => ?_) (fun _ hb => nomatch hb) (fun _ hb => nomatch hb)
    (fun b b' x x' hb => nomatch hb) ⟨rfl, rfl, rfl⟩
  · exact h
  · subst hsl
    cases d with
    | none => exact .inl ⟨by simp, rfl⟩
    | some t0 =>
      by_cases ht : t0 = t
      · subst ht
        refine .inr ?_
        have : t0 < a.tmps.size := by rw [s.tmps]; exact hd _ rfl
        simp only [if_true, Act.put]
        rw [Array.getD_eq_getD_getElem?, Array.getElem?_setIfInBounds_self_of_lt this]
        exact hx rfl
      · refine .inl ⟨by simp [ht], ?_⟩
        simp only [Act.put]
        rw [Array.getD_eq_getD_getElem?, Array.getElem?_setIfInBounds_ne ht, ← Array.getD_eq_getD_getElem?]

end Go.Sx
