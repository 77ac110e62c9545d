/-
  The machine, part U: heads of loops: a state that matches a head is one of the head's.
-/
import Derived.Test.YtnglgoloeabbeaaMT
namespace Go.Sx
open Go Go.RowKit
set_option linter.unusedSimpArgs false
set_option linter.unusedVariables false

def findE (es : List (Nat × E)) (i : Nat) : Option E := (es.find? fun x => x.1 == i).map (·.2)
def findN (r : List (Nat × Option Nat)) (x : Nat) : Option (Option Nat) := (r.find? fun y => y.1 == x).map (·.2)

/-- What has been matched stays so. -/
structure Ext (m M : Mt) : Prop where
  es : ∀ i e, findE m.es i = some e → findE M.es i = some e
  ren : ∀ x b, findN m.ren x = some b → findN M.ren x = some b
  gone : ∀ b ∈ m.gone, b ∈ M.gone
theorem Ext.refl {m : Mt} : Ext m m := ⟨fun _ _ h => h, fun _ _ h => h, fun _ h => h⟩
theorem Ext.trans {m n k : Mt} (h : Ext m n) (h' : Ext n k) : Ext m k := ⟨fun i e x => h'.es i e (h.es i e x), fun i e x => h'.ren i e (h.ren i e x), fun b x => h'.gone b (h.gone b x)⟩

/-- No block has two names. -/
def Inj (m : Mt) : Prop := ∀ x y b, findN m.ren x = some (some b) → findN m.ren y = some (some b) → x = y

theorem var_ok {m m' : Mt} {i : Nat} {e : E} (h : m.var i e = some m') : Ext m m' ∧ findE m'.es i = some e ∧ m'.ren = m.ren := by
  unfold Mt.var at h
  split at h
  · rename_i j e' hf
    split at h
    · rename_i hb
      simp only [Option.some.injEq] at h
      subst h
      refine ⟨Ext.refl, ?_, rfl⟩
      unfold findE
      rw [hf, ← E.eq_of_beq hb]; rfl
    · simp at h
  · rename_i hf
    simp only [Option.some.injEq] at h
    subst h
    refine ⟨⟨fun j e' hj => ?_, fun _ _ h => h, fun _ h => h⟩, ?_, rfl⟩
    · unfold findE at hj ⊢
      simp only [List.find?_cons]
      split
      · rename_i hij
        simp only [beq_iff_eq] at hij
        subst hij
        rw [hf] at hj
        simp at hj
      · exact hj
    · simp [findE]

theorem name_ok {m m' : Mt} {x : Nat} {b : Option Nat} (h : m.name x b = some m') : Ext m m' ∧ findN m'.ren x = some b ∧ (Inj m → Inj m') := by
  unfold Mt.name at h
  split at h
  · rename_i j b' hf
    split at h
    · rename_i hb
      simp only [Option.some.injEq] at h
      subst h
      have hb := eq_of_beq hb
      refine ⟨Ext.refl, ?_, id⟩
      unfold findN
      rw [hf, ← hb]; rfl
    · simp at h
  · rename_i hf
    by_cases hc : m.free b = true
    · rw [if_pos hc] at h
      simp only [Option.some.injEq] at h
      subst h
      refine ⟨⟨fun _ _ h => h, fun j e' hj => ?_, fun _ h => h⟩, ?_, fun hi => ?_⟩
      · unfold findN at hj ⊢
        simp only [List.find?_cons]
        split
        · rename_i hij
          simp only [beq_iff_eq] at hij
          subst hij
          rw [hf] at hj
          simp at hj
        · exact hj
      · simp [findN]
      · have other : ∀ y q, findN m.ren y = some (some q) → b ≠ some q := by
          intro y q hy hbq
          rw [hbq] at hc
          simp only [Mt.free, List.all_eq_true, Bool.not_eq_true', beq_eq_false_iff_ne] at hc
          unfold findN at hy
          cases hf2 : m.ren.find? (fun z => z.1 == y) with
          | none => rw [hf2] at hy; simp at hy
          | some z =>
            rw [hf2] at hy
            simp at hy
            exact hc z (List.mem_of_find?_eq_some hf2) hy
        have head : ∀ y q, findN ((x, b) :: m.ren) y = some (some q) → (y = x ∧ b = some q) ∨ findN m.ren y = some (some q) := by
          intro y q hy
          unfold findN at hy ⊢
          simp only [List.find?_cons] at hy
          split at hy
          · rename_i hxy
            simp only [beq_iff_eq] at hxy
            simp at hy
            exact .inl ⟨hxy.symm, hy⟩
          · exact .inr hy
        intro y z q hy hz
        rcases head y q hy with ⟨h1, h2⟩ | h1 <;> rcases head z q hz with ⟨h3, h4⟩ | h3
        · rw [h1, h3]
        · exact absurd h2 (other z q h3)
        · exact absurd h4 (other y q h1)
        · exact hi y z q h1 h3
    · rw [if_neg hc] at h; simp at h

section
variable {c : Ctx} {sl : Nat → AV} {a : Act} {B : Base}

/-- The head's state over the memory of the one that came. -/
structure HC (nv : Nat) (hb : Nat → Option Blk) (M : Mt) (c c' : Ctx) : Prop where
  w : c'.w = c.w
  hp : c'.hp = hb
  X : c'.L.X = c.L.X
  given : c'.given = c.given
  var : ∀ i e, nv ≤ i → findE M.es i = some e → c'.den (.var i) = c.den e
  closed : ∀ e : E, e.closed nv = true → c'.den e = c.den e
  perm : ∀ k, Perm c.hp c.L k → Perm c'.hp c'.L k
  gone : ∀ b ∈ M.gone, ∀ k, Src c [b] k → Perm c'.hp c'.L k
  some_ : ∀ x b, findN M.ren x = some (some b) → c'.L x = c.L b
  none_ : ∀ x, findN M.ren x = some none → (c'.L x).hdr = .slice none 0 0 ∧ (c'.L x).fp = []
  types : ∀ x b g u ts e o cl lv g' u' ts' e' o' cl' lv', findN M.ren x = some (some b) → hb x = some (.row g u ts e o cl lv) → c.hp b = some (.row g' u' ts' e' o' cl' lv') → ts = ts'

theorem matchE_ok {nv : Nat} {h e : E} {m m' : Mt} (hm : matchE nv h e m = some m') : Ext m m' ∧ m'.ren = m.ren ∧ ∀ {hb : Nat → Option Blk} {M : Mt} {c c' : Ctx}, Ext m' M → HC nv hb M c c' → c'.den h = c.den e := by
  unfold matchE at hm
  split at hm
  · rename_i i
    split at hm
    · rename_i hi
      obtain ⟨h1, h2, h3⟩ := var_ok hm
      exact ⟨h1, h3, fun hM hc => hc.var i e hi (hM.es i e h2)⟩
    · rename_i hi
      split at hm
      · rename_i hb
        simp only [Option.some.injEq] at hm
        subst hm
        refine ⟨Ext.refl, rfl, fun hM hc => ?_⟩
        rw [← E.eq_of_beq hb]
        exact hc.closed _ (by simp [E.closed]; omega)
      · simp at hm
  · split at hm
    · rename_i hb
      simp only [Option.some.injEq] at hm
      subst hm
      simp only [Bool.and_eq_true] at hb
      refine ⟨Ext.refl, rfl, fun hM hc => ?_⟩
      rw [← E.eq_of_beq hb.1]
      exact hc.closed _ hb.2
    · simp at hm

theorem inj_of_ren {m m' : Mt} (h : m'.ren = m.ren) : Inj m → Inj m' := by
  unfold Inj
  rw [h]
  exact id

/-- What a match of two values comes to. -/
def Fits (c : Ctx) (nv : Nat) (hb : Nat → Option Blk) (m m' : Mt) (h e : AV) : Prop :=
  Ext m m' ∧ (Inj m → Inj m') ∧ ∀ (M : Mt) (c' : Ctx), Ext m' M → HC nv hb M c c' → ∀ v, AVOk c e v → AVOk c' h v
def FitsL (c : Ctx) (nv : Nat) (hb : Nat → Option Blk) (m m' : Mt) (h e : List AV) : Prop :=
  Ext m m' ∧ (Inj m → Inj m') ∧ ∀ (M : Mt) (c' : Ctx), Ext m' M → HC nv hb M c c' → ∀ vs, AVsOk c e vs → AVsOk c' h vs

theorem cellAt_hc {nv : Nat} {hb : Nat → Option Blk} {M : Mt} {c c' : Ctx} (hc : HC nv hb M c c') {x b : Nat} (hx : findN M.ren x = some (some b)) {ts : List Ty} {n j : Nat} {v : Value} (h : c.cellAt b ts n j v) : c'.cellAt x ts n j v := by
  unfold Ctx.cellAt at *
  rw [hc.some_ x b hx, hc.w]
  exact h

mutual
theorem matchAV_ok (s : Sim B c sl a) {nv : Nat} {hb : Nat → Option Blk} : ∀ (h e : AV) {m m' : Mt}, matchAV nv hb c.hp h e m = some m' → Fits c nv hb m m' h e
  | .undef, e, m, m', hm => by
    have : m = m' := by cases e <;> simpa [matchAV] using hm
    subst this
    exact ⟨Ext.refl, id, fun _ _ _ _ _ _ => trivial⟩
  | .skip, e, m, m', hm => by cases e <;> simp [matchAV] at hm
  | .sc t x, e, m, m', hm => by
    cases e <;> simp only [matchAV] at hm <;> try (simp at hm; done)
    rename_i t' y
    split at hm
    · rename_i ht
      have := Ty.eq_of_beq ht
      subst this
      obtain ⟨h1, h2, h3⟩ := matchE_ok hm
      exact ⟨h1, inj_of_ren h2, fun M c' hM hc v hv => ⟨hv.1, by rw [h3 hM hc, hc.w]; exact hv.2⟩⟩
    · simp at hm
  | .nil, e, m, m', hm => by
    cases e <;> simp only [matchAV] at hm <;> try (simp at hm; done)
    simp only [Option.some.injEq] at hm
    subst hm
    exact ⟨Ext.refl, id, fun _ _ _ _ v hv => hv⟩
  | .ro ts x, e, m, m', hm => by
    cases e <;> simp only [matchAV] at hm <;> try (simp at hm; done)
    · obtain ⟨h1, h2, h3⟩ := matchE_ok hm
      refine ⟨h1, inj_of_ren h2, fun M c' hM hc v hv => ⟨[], ?_, fun _ h => nomatch h⟩⟩
      rw [h3 hM hc, hv]
      exact .nil
    · split at hm
      · rename_i ts' y ht
        have := Ty.eqL ht
        subst this
        obtain ⟨h1, h2, h3⟩ := matchE_ok hm
        refine ⟨h1, inj_of_ren h2, fun M c' hM hc v hv => ?_⟩
        obtain ⟨fp, p1, p2⟩ := hv
        exact ⟨fp, by rw [h3 hM hc, hc.w]; exact p1, fun k hk => hc.perm k (p2 k hk)⟩
      · simp at hm
    · split at hm
      · rename_i b g _ g' u ts' y own cl lv hcb
        split at hm
        · rename_i hgt
          simp only [Bool.and_eq_true, beq_iff_eq] at hgt
          obtain ⟨rfl, ht⟩ := hgt
          have := Ty.eqL ht
          subst this
          obtain ⟨h1, h2, h3⟩ := matchE_ok hm
          refine ⟨⟨h1.es, h1.ren, fun q hq => h1.gone q (List.mem_cons_of_mem _ hq)⟩, inj_of_ren h2, fun M c' hM hc v hv => ?_⟩
          have hk := s.blks _ _ hcb
          rw [hv.2.2 _ _ _ _ _ _ hcb]
          refine ⟨_, by rw [h3 hM hc, hc.w]; exact row_rep hk, fun k hk' => ?_⟩
          rcases row_took s hcb k hk' with h | h
          · exact hc.perm k h
          · exact hc.gone b (hM.gone b (h1.gone b (List.mem_cons_self ..))) k h
        · simp at hm
      · simp at hm
  | .orig ts i, e, m, m', hm => by
    cases e <;> simp only [matchAV] at hm <;> try (simp at hm; done)
    split at hm
    · rename_i ts' i' hck
      simp only [Bool.and_eq_true, beq_iff_eq, decide_eq_true_eq] at hck
      obtain ⟨⟨ht, rfl⟩, hi⟩ := hck
      have := Ty.eqL ht
      subst this
      simp only [Option.some.injEq] at hm
      subst hm
      refine ⟨Ext.refl, id, fun M c' hM hc v hv => ?_⟩
      obtain ⟨h1, fp, h2, h3⟩ := hv
      exact ⟨by rw [hc.given]; exact h1, fp, by rw [hc.closed (.var i) (by simp [E.closed]; exact hi), hc.w]; exact h2, fun k hk => hc.perm k (h3 k hk)⟩
    · simp at hm
  | .row x y, e, m, m', hm => by
    cases e <;> simp only [matchAV] at hm <;> try (simp at hm; done)
    · split at hm
      · rename_i gx ux tx ex ox cx lx hxb
        split at hm
        · rename_i hgx
          simp only [beq_iff_eq] at hgx
          subst hgx
          obtain ⟨h1, h2, h3⟩ := name_ok hm
          refine ⟨h1, h3, fun M c' hM hc v hv => ⟨⟨_, _, _, hv⟩, by rw [hc.hp, hxb]; simp [gen], fun u ts e own clean live hx => ?_⟩⟩
          rw [(hc.none_ x (hM.ren x _ h2)).1]
          exact hv
        · simp at hm
      · simp at hm
    · split at hm
      · rename_i b g _ _ gx ux tx ex ox cx lx g' ub tb eb ob cb' lb hxb hcb
        split at hm
        · rename_i hg
          simp only [Bool.and_eq_true, beq_iff_eq] at hg
          obtain ⟨rfl, rfl⟩ := hg
          obtain ⟨h1, h2, h3⟩ := name_ok hm
          refine ⟨h1, h3, fun M c' hM hc v hv => ⟨hv.1, by rw [hc.hp, hxb]; simp [gen], fun u ts e own clean live hx => ?_⟩⟩
          rw [hc.some_ x b (hM.ren x _ h2)]
          exact hv.2.2 _ _ _ _ _ _ hcb
        · simp at hm
      · simp at hm
  | .part x y l h, e, m, m', hm => by
    cases e <;> simp only [matchAV] at hm <;> try (simp at hm; done)
    rename_i b g l' h'
    split at hm
    · rename_i gx ux tx ex ox cx lx g' ub tb eb ob cb' lb hxb hcb
      split at hm
      · rename_i hg
        simp only [Bool.and_eq_true, beq_iff_eq] at hg
        obtain ⟨rfl, rfl⟩ := hg
        split at hm
        · rename_i m1 hm1
          split at hm
          · rename_i m2 hm2
            obtain ⟨h1, h2, h3⟩ := name_ok hm1
            obtain ⟨k1, k2, k3⟩ := matchE_ok hm2
            obtain ⟨q1, q2, q3⟩ := matchE_ok hm
            refine ⟨(h1.trans k1).trans q1, fun hi => inj_of_ren q2 (inj_of_ren k2 (h3 hi)), fun M c' hM hc v hv => ⟨hv.1, by rw [hc.hp, hxb]; simp [gen], fun u ts e own clean live hx => ?_⟩⟩
            have hxr := hM.ren x _ (q1.ren x _ (k1.ren x _ h2))
            rw [hc.some_ x b hxr]
            obtain ⟨lo, hi, p1, p2, p3⟩ := hv.2.2 _ _ _ _ _ _ hcb
            rw [hc.hp] at hx
            have := hc.types x b _ _ _ _ _ _ _ _ _ _ _ _ _ _ hxr hx hcb
            subst this
            exact ⟨lo, hi, by rw [k3 (q1.trans hM) hc]; exact p1, by rw [q3 hM hc]; exact p2, p3⟩
          · simp at hm
        · simp at hm
      · simp at hm
    · simp at hm
  | .under x y z i j ts, e, m, m', hm => by
    cases e <;> simp only [matchAV] at hm <;> try (simp at hm; done)
    rename_i b g u i' j' ts'
    split at hm
    · rename_i gx ux tx ex ox cx g' ub tb eb ob cb' hxb hcb
      split at hm
      · rename_i hg
        simp only [Bool.and_eq_true, beq_iff_eq] at hg
        obtain ⟨⟨⟨⟨⟨rfl, rfl⟩, rfl⟩, rfl⟩, rfl⟩, ht⟩ := hg
        have := Ty.eqL ht
        subst this
        split at hm
        · rename_i m1 hm1
          obtain ⟨h1, h2, h3⟩ := name_ok hm1
          obtain ⟨k1, k2, k3⟩ := matchE_ok hm
          refine ⟨h1.trans k1, fun hi => inj_of_ren k2 (h3 hi), fun M c' hM hc v hv => ⟨hv.1, by rw [hc.hp, hxb]; simp [gen], fun u2 tsr e own clean hx => ?_⟩⟩
          have hxr := hM.ren x _ (k1.ren x _ h2)
          rw [hc.hp] at hx
          have hty := hc.types x b _ _ _ _ _ _ _ _ _ _ _ _ _ _ hxr hx hcb
          rw [hxb] at hx
          simp only [Option.some.injEq, Blk.row.injEq] at hx
          obtain ⟨_, rfl, rfl, _⟩ := hx
          subst hty
          obtain ⟨p1, p2⟩ := hv.2.2 _ _ _ _ _ hcb
          obtain ⟨p3, n, p4, p5⟩ := p2 rfl
          exact ⟨Nat.le_refl _, fun _ => ⟨p3, n, by rw [k3 hM hc]; exact p4, cellAt_hc hc hxr p5⟩⟩
        · simp at hm
      · simp at hm
    · simp at hm
  | .ptr x y o', e, m, m', hm => by
    cases e <;> simp only [matchAV] at hm <;> try (simp at hm; done)
    rename_i b g o2
    split at hm
    · rename_i gx cx g' cb' hxb hcb
      split at hm
      · rename_i hg
        simp only [Bool.and_eq_true, beq_iff_eq] at hg
        obtain ⟨⟨rfl, rfl⟩, rfl⟩ := hg
        obtain ⟨h1, h2, h3⟩ := name_ok hm
        refine ⟨h1, h3, fun M c' hM hc v hv => ⟨hv.1, by rw [hc.hp, hxb]; simp [gen], fun cells hx => ?_⟩⟩
        rw [hc.some_ x b (hM.ren x _ h2)]
        exact hv.2.2 _ hcb
      · simp at hm
    · simp at hm
  | .eptr _ _ _ _, e, m, m', hm => by cases e <;> simp [matchAV] at hm
  | .rptr _ _ _ _, e, m, m', hm => by cases e <;> simp [matchAV] at hm
  | .uptr _ _ _ _ _ _ _ _, e, m, m', hm => by cases e <;> simp [matchAV] at hm
  | .maybe _ _, e, m, m', hm => by cases e <;> simp [matchAV] at hm
  | .agg l, e, m, m', hm => by
    cases e <;> simp only [matchAV] at hm <;> try (simp at hm; done)
    obtain ⟨h1, h2, h3⟩ := matchAVs_ok s l _ hm
    refine ⟨h1, h2, fun M c' hM hc v hv => ?_⟩
    obtain ⟨vs, p1, p2⟩ := hv
    exact ⟨vs, p1, h3 M c' hM hc vs p2⟩
  | .tup l, e, m, m', hm => by
    cases e <;> simp only [matchAV] at hm <;> try (simp at hm; done)
    obtain ⟨h1, h2, h3⟩ := matchAVs_ok s l _ hm
    refine ⟨h1, h2, fun M c' hM hc v hv => ?_⟩
    obtain ⟨vs, p1, p2⟩ := hv
    exact ⟨vs, p1, h3 M c' hM hc vs p2⟩
theorem matchAVs_ok (s : Sim B c sl a) {nv : Nat} {hb : Nat → Option Blk} : ∀ (h e : List AV) {m m' : Mt}, matchAVs nv hb c.hp h e m = some m' → FitsL c nv hb m m' h e
  | [], e, m, m', hm => by
    cases e <;> simp only [matchAVs] at hm <;> try (simp at hm; done)
    simp only [Option.some.injEq] at hm
    subst hm
    refine ⟨Ext.refl, id, fun _ _ _ _ vs hv => ?_⟩
    cases vs with
    | nil => trivial
    | cons => exact hv.elim
  | x :: xs, e, m, m', hm => by
    cases e <;> simp only [matchAVs] at hm <;> try (simp at hm; done)
    rename_i y ys
    split at hm
    · rename_i m1 hm1
      obtain ⟨h1, h2, h3⟩ := matchAV_ok s x y hm1
      obtain ⟨k1, k2, k3⟩ := matchAVs_ok s xs ys hm
      refine ⟨h1.trans k1, fun hi => k2 (h2 hi), fun M c' hM hc vs hv => ?_⟩
      cases vs with
      | nil => exact hv.elim
      | cons v vs => exact ⟨h3 M c' (k1.trans hM) hc v hv.1, k3 M c' hM hc vs hv.2⟩
    · simp at hm
end

theorem matchSlots_ok (s : Sim B c sl a) {nv : Nat} {hb : Nat → Option Blk} : ∀ {l : List (Nat × AV)} {m m' : Mt}, matchSlots nv hb c.hp sl l m = some m' →
    Ext m m' ∧ (Inj m → Inj m') ∧ ∀ (M : Mt) (c' : Ctx), Ext m' M → HC nv hb M c c' → ∀ x ∈ l, AVOk c' x.2 (a.tmps.getD x.1 Go.undef)
  | [], m, m', hm => by
    simp only [matchSlots, Option.some.injEq] at hm
    subst hm
    exact ⟨Ext.refl, id, fun _ _ _ _ _ h => nomatch h⟩
  | (t, v) :: l, m, m', hm => by
    simp only [matchSlots] at hm
    split at hm
    · rename_i m1 hm1
      obtain ⟨h1, h2, h3⟩ := matchAV_ok s v (sl t) hm1
      obtain ⟨k1, k2, k3⟩ := matchSlots_ok s hm
      refine ⟨h1.trans k1, fun hi => k2 (h2 hi), fun M c' hM hc x hx => ?_⟩
      rcases List.mem_cons.1 hx with rfl | hx
      · exact h3 M c' (k1.trans hM) hc _ (s.slots t)
      · exact k3 M c' hM hc x hx
    · simp at hm

/-- How a block of the head lies to the one that came. -/
def Shaped (c : Ctx) (M : Mt) (x : Nat) (y : Blk) : Prop :=
  (∃ b g cells g' cells', findN M.ren x = some (some b) ∧ y = .box g cells ∧ c.hp b = some (.box g' cells')) ∨
  (∃ b g u ts h own clean g' u' e own', findN M.ren x = some (some b) ∧ y = .row g u ts h own clean true ∧ c.hp b = some (.row g' u' ts e own' clean true) ∧ (own = true → own' = true) ∧ (clean = true → own = true)) ∨
  (findN M.ren x = some none ∧ ∃ g u ts h own clean, y = .row g u ts h own clean true)

theorem Shaped.ext {m M : Mt} {x : Nat} {y : Blk} (h : Shaped c m x y) (hM : Ext m M) : Shaped c M x y := by
  rcases h with ⟨b, g, cells, g', cells', h1, h2⟩ | ⟨b, g, u, ts, h, own, clean, g', u', e, own', h1, h2⟩ | ⟨h1, h2⟩
  · exact .inl ⟨b, g, cells, g', cells', hM.ren _ _ h1, h2⟩
  · exact .inr (.inl ⟨b, g, u, ts, h, own, clean, g', u', e, own', hM.ren _ _ h1, h2⟩)
  · exact .inr (.inr ⟨hM.ren _ _ h1, h2⟩)

theorem findN_eq {r : List (Nat × Option Nat)} {x y : Nat} {b : Option Nat} (h : r.find? (fun z => z.1 == x) = some (y, b)) : findN r x = some b := by unfold findN; rw [h]; rfl

theorem matchBlks_ok (s : Sim B c sl a) {nv : Nat} {hb : Nat → Option Blk} : ∀ {l : List (Nat × Blk)} {m m' : Mt}, matchBlks nv hb c.hp l m = some m' →
    Ext m m' ∧ (Inj m → Inj m') ∧ (∀ y ∈ l, Shaped c m' y.1 y.2) ∧ ∀ (M : Mt) (c' : Ctx), Ext m' M → HC nv hb M c c' → (∀ x b, findN M.ren x = some (some b) → ∀ x', c'.hp x = some x' → ∀ q, c.hp b = some q → ∀ k ∈ (c.L b).fp, k ∈ acc q (c.L b) → k ∉ hard x' (c'.L x) → Perm c'.hp c'.L k) →
      ∀ y ∈ l, c'.hp y.1 = some y.2 → BlkOk c' y.2 (c'.L y.1)
  | [], m, m', hm => by
    simp only [matchBlks, Option.some.injEq] at hm
    subst hm
    exact ⟨Ext.refl, id, (fun _ h => nomatch h), fun _ _ _ _ _ _ h => nomatch h⟩
  | (x, .gone g) :: l, m, m', hm => by simp [matchBlks] at hm
  | (x, .box g cells) :: l, m, m', hm => by
    simp only [matchBlks] at hm
    split at hm
    · rename_i x' b hf
      have hfn := findN_eq hf
      split at hm
      · rename_i g' cells' hcb
        split at hm
        · rename_i m1 hm1
          obtain ⟨h1, h2, h3⟩ := matchAVs_ok s cells cells' hm1
          obtain ⟨k1, k2, k3, k4⟩ := matchBlks_ok s hm
          refine ⟨h1.trans k1, fun hi => k2 (h2 hi), fun y hy => ?_, fun M c' hM hc hfp y hy hyy => ?_⟩
          · rcases List.mem_cons.1 hy with rfl | hy
            · exact .inl ⟨b, g, cells, g', cells', (h1.trans k1).ren _ _ hfn, rfl, hcb⟩
            · exact k3 y hy
          · rcases List.mem_cons.1 hy with rfl | hy
            · obtain ⟨vs, T, p1, p2⟩ := s.blks _ _ hcb
              simp only
              rw [hc.some_ x b (hM.ren _ _ ((h1.trans k1).ren _ _ hfn))]
              exact ⟨vs, T, by rw [hc.w]; exact p1, h3 M c' (k1.trans hM) hc vs p2⟩
            · exact k4 M c' hM hc hfp y hy hyy
        · simp at hm
      · simp at hm
    · simp at hm
  | (x, .row g u ts h own clean live) :: l, m, m', hm => by
    simp only [matchBlks] at hm
    split at hm
    · rename_i x' b hf
      have hfn := findN_eq hf
      split at hm
      · rename_i g' u' ts' e own' clean' live' hcb
        split at hm
        · rename_i hck
          simp only [Bool.and_eq_true, Bool.or_eq_true, Bool.not_eq_true', beq_iff_eq] at hck
          obtain ⟨⟨⟨⟨⟨hts, hown⟩, rfl⟩, rfl⟩, rfl⟩, hcl⟩ := hck
          have := Ty.eqL hts
          subst this
          have hown' : own = true → own' = true := fun h => by
            rcases hown with h' | h'
            · rw [h] at h'; exact nomatch h'
            · exact h'
          have hcl' : clean = true → own = true := fun h => by
            rcases hcl with h' | h'
            · rw [h] at h'; exact nomatch h'
            · exact h'
          split at hm
          · rename_i m1 hm1
            obtain ⟨h1, h2, h3⟩ := matchE_ok hm1
            obtain ⟨k1, k2, k3, k4⟩ := matchBlks_ok s hm
            refine ⟨h1.trans k1, fun hi => k2 (inj_of_ren h2 hi), fun y hy => ?_, fun M c' hM hc hfp y hy hyy => ?_⟩
            · rcases List.mem_cons.1 hy with rfl | hy
              · exact .inr (.inl ⟨b, g, u, ts, h, own, clean, g', u', e, own', (h1.trans k1).ren _ _ hfn, rfl, hcb, hown', hcl'⟩)
              · exact k3 y hy
            · rcases List.mem_cons.1 hy with rfl | hy
              · have hxr := hM.ren _ _ ((h1.trans k1).ren _ _ hfn)
                obtain ⟨⟨d, p0, p1⟩, p2, p3, p4, p5⟩ := s.blks _ _ hcb
                simp only at hyy ⊢
                have hL := hc.some_ x b hxr
                rw [hL]
                refine ⟨⟨d, by rw [h3 (k1.trans hM) hc]; exact p0, ?_⟩, (fun h => nomatch h), fun _ ho k hk => ?_, fun _ ho => p4 rfl (hown' ho), hcl'⟩
                · rcases p1 with p1 | ⟨o', len, cap, vs, q1, q2, q3, q4, q5, q6, q7, q8⟩
                  · exact .inl p1
                  · exact .inr ⟨o', len, cap, vs, q1, by rw [hc.w]; exact q2, q3, q4, q5, fun _ => by rw [hc.w]; exact q6 rfl, by rw [hc.w]; exact q7, by rw [hc.w]; exact q8.weak hown'⟩
                · cases own' with
                  | false => exact hc.perm k (p3 rfl rfl k hk)
                  | true =>
                    refine hfp x b hxr _ hyy _ hcb k hk (by simp [acc, hk]) ?_
                    rw [hL]
                    have hclf : clean = false := by
                      cases clean with
                      | false => rfl
                      | true => rw [hcl' rfl] at ho; exact nomatch ho
                    simp only [hard, hclf, Bool.false_eq_true, if_false, List.append_nil]
                    exact fun hm => (List.nodup_append.1 (p4 rfl rfl)).2.2 k hm k hk rfl
              · exact k4 M c' hM hc hfp y hy hyy
          · simp at hm
        · simp at hm
      · simp at hm
    · rename_i x' hf
      have hfn := findN_eq hf
      split at hm
      · rename_i hlive
        simp only [Bool.and_eq_true, Bool.or_eq_true, Bool.not_eq_true'] at hlive
        obtain ⟨rfl, hcl⟩ := hlive
        split at hm
        · rename_i m1 hm1
          obtain ⟨h1, h2, h3⟩ := matchE_ok hm1
          obtain ⟨k1, k2, k3, k4⟩ := matchBlks_ok s hm
          refine ⟨h1.trans k1, fun hi => k2 (inj_of_ren h2 hi), fun y hy => ?_, fun M c' hM hc hfp y hy hyy => ?_⟩
          · rcases List.mem_cons.1 hy with rfl | hy
            · exact .inr (.inr ⟨(h1.trans k1).ren _ _ hfn, _, _, _, _, _, _, rfl⟩)
            · exact k3 y hy
          · rcases List.mem_cons.1 hy with rfl | hy
            · obtain ⟨n1, n2⟩ := hc.none_ x (hM.ren _ _ ((h1.trans k1).ren _ _ hfn))
              simp only
              have htop : (c'.L x).top = [] := Loc.top_none n1
              have e1 : c'.den h = .sl [] := (h3 (k1.trans hM) hc).trans rfl
              refine ⟨⟨[], e1, .inl ⟨n1, rfl, n2⟩⟩, (fun h => nomatch h), fun _ _ k hk => ?_, fun _ _ => ?_, fun h => ?_⟩
              · rw [n2] at hk; exact nomatch hk
              · rw [htop, n2]; exact List.nodup_nil
              · rcases hcl with h' | h'
                · rw [h] at h'; exact nomatch h'
                · exact h'
            · exact k4 M c' hM hc hfp y hy hyy
        · simp at hm
      · simp at hm
    · simp at hm


theorem lookAV_mem : ∀ {l : List (Nat × AV)} {t : Nat}, lookAV l t = .undef ∨ (t, lookAV l t) ∈ l
  | [], t => .inl rfl
  | (i, v) :: l, t => by
    simp only [lookAV]
    split
    · rename_i h
      simp only [beq_iff_eq] at h
      subst h
      exact .inr (List.mem_cons_self ..)
    · rcases lookAV_mem (l := l) (t := t) with h | h
      · exact .inl h
      · exact .inr (List.mem_cons_of_mem _ h)

theorem lookBlk_mem : ∀ {l : List (Nat × Blk)} {t : Nat} {x : Blk}, lookBlk l t = some x → (t, x) ∈ l
  | [], t, x, h => by simp [lookBlk] at h
  | (i, v) :: l, t, x, h => by
    simp only [lookBlk] at h
    split at h
    · rename_i hi
      simp only [beq_iff_eq] at hi
      subst hi
      simp only [Option.some.injEq] at h
      subst h
      exact List.mem_cons_self ..
    · exact List.mem_cons_of_mem _ (lookBlk_mem h)

mutual
theorem den_closed {Γ : Nat → List D → List D} {ρ ρ' : List D} {nv : Nat} (h : ∀ i, i < nv → ρ'.getD i default = ρ.getD i default) : ∀ (e : E), e.closed nv = true → Sx.den Γ ρ' e = Sx.den Γ ρ e
  | .var i, hc => h i (by simpa [E.closed] using hc)
  | .int _, _ => rfl
  | .bool _, _ => rfl
  | .str _, _ => rfl
  | .nil, _ => rfl
  | .app f args, hc => by
    simp only [Sx.den]
    rw [denL_closed h args (by simpa [E.closed] using hc)]
theorem denL_closed {Γ : Nat → List D → List D} {ρ ρ' : List D} {nv : Nat} (h : ∀ i, i < nv → ρ'.getD i default = ρ.getD i default) : ∀ (es : List E), E.closedL nv es = true → denL Γ ρ' es = denL Γ ρ es
  | [], _ => rfl
  | e :: es, hc => by
    simp only [E.closedL, Bool.and_eq_true] at hc
    simp only [denL]
    rw [den_closed h e hc.1, denL_closed h es hc.2]
end

theorem varsOf_ok {nv : Nat} {es : List (Nat × E)} : ∀ {n : Nat} {l : List E}, varsOf nv es n = some l → l.length = n ∧ ∀ k, k < n → findE es (nv + k) = l[k]?
  | 0, l, h => by simp [varsOf] at h; subst h; exact ⟨rfl, fun k h => by omega⟩
  | n + 1, l, h => by
    simp only [varsOf] at h
    split at h
    · rename_i l0 x e h1 h2
      simp only [Option.some.injEq] at h
      subst h
      obtain ⟨r1, r2⟩ := varsOf_ok h1
      refine ⟨by simp [r1], fun k hk => ?_⟩
      by_cases hkn : k = n
      · subst hkn
        rw [List.getElem?_append_right (by omega), r1, Nat.sub_self]
        unfold findE
        rw [h2]; rfl
      · rw [List.getElem?_append_left (by omega)]
        exact r2 k (by omega)
    · simp at h

theorem denL_get {Γ : Nat → List D → List D} {ρ : List D} : ∀ {es : List E} {k : Nat} {e : E}, es[k]? = some e → (denL Γ ρ es)[k]? = some (Sx.den Γ ρ e)
  | [], k, e, h => by simp at h
  | x :: es, 0, e, h => by simp at h; subst h; rfl
  | x :: es, k + 1, e, h => by simp only [denL, List.getElem?_cons_succ] at *; exact denL_get h

/-- Where the head's blocks lie. -/
def headLoc (c : Ctx) (M : Mt) (x : Nat) : Loc := match findN M.ren x with
  | some (some b) => c.L b
  | _ => ⟨0, .slice none 0 0, []⟩

theorem matchSt_ok {Γ : Nat → List D → List D} {ρ : List D} {X : Nat → Prop} {s h : St} {fixed : List Nat} {nv vars : Nat} {es : List E} {w : World} (hat : At B Γ ρ X s.slot s.blk a w) (hρ : nv ≤ ρ.length) (hfix : ∀ y ∈ B.fix, y.1 ∈ fixed)
    (hm : matchSt fixed nv vars h s = some es) : es.length = vars ∧ At B Γ (ρ.take nv ++ denL Γ ρ es) X h.slot h.blk a w := by
  obtain ⟨c, rfl, rfl, rfl, rfl, hhp, sim⟩ := hat
  unfold matchSt at hm
  split at hm
  · simp at hm
  split at hm
  · simp at hm
  rename_i m1 hm1
  split at hm
  · simp at hm
  rename_i M hm2
  split at hm
  case isFalse => simp at hm
  rename_i hck
  simp only [Bool.and_eq_true, List.all_eq_true, decide_eq_true_eq, Bool.not_eq_true', beq_eq_false_iff_ne] at hck
  obtain ⟨⟨hgone, hidx⟩, hfx⟩ := hck
  rw [← hhp] at hm1 hm2
  obtain ⟨s1, s2, s3⟩ := matchSlots_ok sim hm1
  obtain ⟨b1, b2, b3, b4⟩ := matchBlks_ok sim hm2
  have hinj : Inj M := b2 (s2 (fun x y b hx => by simp [findN] at hx))
  obtain ⟨v1, v2⟩ := varsOf_ok hm
  let c' : Ctx := { Γ := c.Γ, given := c.given, ρ := c.ρ.take nv ++ denL c.Γ c.ρ es, hp := h.blk, L := ⟨headLoc c M, c.L.X⟩, w := c.w }
  have hsh : ∀ x y, h.blk x = some y → Shaped c M x y := fun x y hx => b3 (x, y) (lookBlk_mem hx)
  have hLs : ∀ x b, findN M.ren x = some (some b) → c'.L x = c.L b := fun x b hx => by
    show headLoc c M x = _
    unfold headLoc; rw [hx]
  have hLn : ∀ x, findN M.ren x = some none → c'.L x = ⟨0, .slice none 0 0, []⟩ := fun x hx => by
    show headLoc c M x = _
    unfold headLoc; rw [hx]
  -- each block of the head writes and owns no more than the one that came
  have hsub : ∀ x y, h.blk x = some y → (∃ b q, findN M.ren x = some (some b) ∧ c.hp b = some q ∧ (∀ k ∈ hard y (c'.L x), k ∈ hard q (c.L b)) ∧ ∀ k ∈ acc y (c'.L x), k ∈ acc q (c.L b)) ∨ (hard y (c'.L x) = [] ∧ acc y (c'.L x) = []) := by
    intro x y hx
    rcases hsh x y hx with ⟨b, g, cells, g', cells', h1, rfl, h3⟩ | ⟨b, g, u, ts, hh, own, clean, g', u', e, own', h1, rfl, h3, h4, h5⟩ | ⟨h1, g, u, ts, hh, own, clean, rfl⟩
    · refine .inl ⟨b, _, h1, h3, ?_, ?_⟩ <;> rw [hLs x b h1] <;> exact fun k hk => hk
    · refine .inl ⟨b, _, h1, h3, ?_, ?_⟩ <;> rw [hLs x b h1]
      · exact fun k hk => hk
      · intro k hk
        simp only [acc] at hk ⊢
        rcases List.mem_append.1 hk with hk | hk
        · exact List.mem_append_left _ hk
        · cases own with
          | false => exact nomatch hk
          | true => rw [h4 rfl]; exact List.mem_append_right _ hk
    · refine .inr ?_
      rw [hLn x h1]
      refine ⟨?_, ?_⟩
      · simp [hard, Loc.top]
      · simp [acc, Loc.top]
  have hperm : ∀ k, Perm c.hp c.L k → Perm c'.hp c'.L k := fun k hk => ⟨fun x y hx hm => by
    rcases hsub x y hx with ⟨b, q, h1, h2, h3, _⟩ | ⟨h1, _⟩
    · exact hk.1 b q h2 (h3 k hm)
    · rw [h1] at hm; exact (nomatch hm), hk.2⟩
  have hother : ∀ b q k, c.hp b = some q → k ∈ acc q (c.L b) → (∀ x, h.blk x ≠ none → findN M.ren x ≠ some (some b)) → Perm c'.hp c'.L k := fun b q k hb hk hno => ⟨fun x y hx hm => by
    rcases hsub x y hx with ⟨b2, q2, h1, h2, h3, _⟩ | ⟨h1, _⟩
    · refine sim.disj b b2 q q2 (fun e => ?_) hb h2 k hk (hard_acc (sim.blks _ _ h2) k (h3 k hm))
      subst e
      refine hno x ?_ h1
      intro e
      replace hx : h.blk x = some y := hx
      rw [e] at hx; exact nomatch hx
    · rw [h1] at hm; exact (nomatch hm), sim.apart b q hb k hk⟩
  have hden : ∀ e : E, e.closed nv = true → c'.den e = c.den e := fun e he => by
    refine den_closed (fun i hi => ?_) e he
    rw [List.getD_eq_getElem?_getD, List.getElem?_append_left (by rw [List.length_take]; omega), List.getElem?_take_of_lt hi, ← List.getD_eq_getElem?_getD]
  have hcx : HC nv h.blk M c c' := {
    w := rfl
    hp := rfl
    X := rfl
    given := rfl
    var := fun i e hi hf => by
      have hmem : i < nv + vars := by
        unfold findE at hf
        cases hf2 : M.es.find? (fun z => z.1 == i) with
        | none => rw [hf2] at hf; simp at hf
        | some z =>
          have h1 := List.find?_some hf2
          simp only [beq_iff_eq] at h1
          rw [← h1]
          exact hidx z (List.mem_of_find?_eq_some hf2)
      have h2 := v2 (i - nv) (by omega)
      rw [show nv + (i - nv) = i from by omega, hf] at h2
      show (c.ρ.take nv ++ denL c.Γ c.ρ es).getD i default = Sx.den c.Γ c.ρ e
      rw [List.getD_eq_getElem?_getD, List.getElem?_append_right (by rw [List.length_take]; omega), List.length_take, Nat.min_eq_left hρ, denL_get h2.symm]
      rfl
    closed := hden
    perm := hperm
    gone := fun b hb k hk => by
      obtain ⟨b0, hb0, q, h1, h2⟩ := hk
      rw [List.mem_singleton.1 hb0] at h1 h2
      refine hother b q k h1 h2 fun x _ hx => ?_
      unfold findN at hx
      cases hf : M.ren.find? (fun y => y.1 == x) with
      | none => rw [hf] at hx; simp at hx
      | some y =>
        rw [hf] at hx
        simp at hx
        exact hgone b hb y (List.mem_of_find?_eq_some hf) hx
    some_ := hLs
    none_ := fun x hx => by rw [hLn x hx]; exact ⟨rfl, rfl⟩
    types := fun x b g u ts e o cl lv g' u' ts' e' o' cl' lv' hx hxb hb => by
      rcases hsh x _ hxb with ⟨b2, g, cells, g', cells', h1, h2, h3⟩ | ⟨b2, g, u, ts2, hh, own, clean, g', u', e, own', h1, h2, h3, h4, h5⟩ | ⟨h1, _⟩
      · simp at h2
      · rw [hx] at h1
        simp only [Option.some.injEq] at h1
        subst h1
        rw [hb] at h3
        simp only [Option.some.injEq, Blk.row.injEq] at h2 h3
        rw [h2.2.2.1, h3.2.2.1]
      · rw [hx] at h1; simp at h1 }
  have hfp : ∀ x b, findN M.ren x = some (some b) → ∀ x', c'.hp x = some x' → ∀ q, c.hp b = some q → ∀ k ∈ (c.L b).fp, k ∈ acc q (c.L b) → k ∉ hard x' (c'.L x) → Perm c'.hp c'.L k := by
    intro x b hx x' hx' q hq k _ hk hnot
    refine ⟨fun x2 y2 hx2 hm => ?_, sim.apart b q hq k hk⟩
    by_cases hxx : x2 = x
    · subst hxx
      rw [hx'] at hx2
      simp only [Option.some.injEq] at hx2
      subst hx2
      exact hnot hm
    · rcases hsub x2 y2 hx2 with ⟨b2, q2, h1, h2, h3, _⟩ | ⟨h1, _⟩
      · exact sim.disj b b2 q q2 (fun e => hxx (hinj x2 x b (e ▸ h1) hx)) hq h2 k hk (hard_acc (sim.blks _ _ h2) k (h3 k hm))
      · rw [h1] at hm; exact nomatch hm
  refine ⟨v1, c', rfl, rfl, rfl, rfl, rfl, {
    tmps := sim.tmps
    defs := sim.defs
    slots := fun t => ?_
    blks := fun x y hx => b4 M c' Ext.refl hcx hfp (x, y) (lookBlk_mem hx) hx
    disj := fun x x' y y' hne hx hx' k hk hk' => ?_
    frame := sim.frame
    low := fun x y hx k hk => ?_
    lowA := fun x y hx k hk => ?_
    apart := fun x y hx k hk => ?_
    old := sim.old
    given := sim.given
    fixed := fun y hy => ?_ }⟩
  · show AVOk c' (lookAV h.slots t) _
    rcases lookAV_mem (l := h.slots) (t := t) with he | he
    · rw [he]; trivial
    · exact s3 M c' b1 hcx (t, lookAV h.slots t) he
  · rcases hsub x y hx with ⟨b, q, h1, h2, _, h3⟩ | ⟨_, h1⟩
    · rcases hsub x' y' hx' with ⟨b', q', h1', h2', _, h3'⟩ | ⟨_, h1'⟩
      · exact sim.disj b b' q q' (fun e => hne (hinj x x' b h1 (e ▸ h1'))) h2 h2' k (h3 k hk) (h3' k hk')
      · rw [h1'] at hk'; exact nomatch hk'
    · rw [h1] at hk; exact nomatch hk
  · rcases hsub x y hx with ⟨b, q, h1, h2, h3, _⟩ | ⟨h1, _⟩
    · exact sim.low b q h2 k (h3 k hk)
    · rw [h1] at hk; exact nomatch hk
  · rcases hsub x y hx with ⟨b, q, h1, h2, _, h3⟩ | ⟨_, h1⟩
    · exact sim.lowA b q h2 k (h3 k hk)
    · rw [h1] at hk; exact nomatch hk
  · rcases hsub x y hx with ⟨b, q, h1, h2, _, h3⟩ | ⟨_, h1⟩
    · exact sim.apart b q h2 k (h3 k hk)
    · rw [h1] at hk; exact nomatch hk
  · obtain ⟨x, hx, hk⟩ := sim.fixed y hy
    have hf := hfx y.1 (hfix y hy)
    obtain ⟨hren, hgen⟩ := hf
    have hgen := eq_of_beq hgen
    have hname : findN M.ren y.1 = some (some y.1) := by
      split at hren
      · rename_i z b hz
        unfold findN
        rw [hz]
        have := eq_of_beq hren
        rw [this]; rfl
      · exact nomatch hren
    have hcur : s.blk y.1 = some x := by rw [← hhp]; exact hx
    rw [hcur] at hgen
    cases hhx : h.blk y.1 with
    | none =>
      rw [hhx] at hgen
      cases x <;> simp [gen] at hgen
    | some x' =>
      refine ⟨x', hhx, ?_⟩
      rw [hLs _ _ hname]
      rw [hhx] at hgen
      rcases hsh _ _ hhx with ⟨b, g, cells, g', cells', h1, rfl, h3⟩ | ⟨b, g, u, ts, hh, own, clean, g', u', e, own', h1, rfl, h3, h4, h5⟩ | ⟨h1, _⟩
      · rw [hname] at h1
        simp only [Option.some.injEq] at h1
        subst h1
        rw [hx] at h3
        simp only [Option.some.injEq] at h3
        subst h3
        simp only [gen] at hgen
        have : g = g' := by omega
        subst this
        cases g with
        | succ g => trivial
        | zero => exact hk
      · rw [hname] at h1
        simp only [Option.some.injEq] at h1
        subst h1
        rw [hx] at h3
        simp only [Option.some.injEq] at h3
        subst h3
        simp only [gen] at hgen
        have : g = g' := by omega
        subst this
        cases g with
        | succ g => trivial
        | zero => exact hk
      · rw [hname] at h1; simp at h1

end
end Go.Sx
