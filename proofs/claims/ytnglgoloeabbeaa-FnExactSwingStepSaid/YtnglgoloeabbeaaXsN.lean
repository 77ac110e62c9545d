/-
  What the program's functions compute, as plain data: each from its tree.
-/
import Derived.Test.YtnglgoloeabbeaaXsL
namespace Go.Sx
open Go
set_option linter.unusedSimpArgs false
set_option linter.unusedVariables false


/-! ### Learning -/

def stepN (rate a b : Int) : Int := (fixSub a (fixMul rate b).1).1
def stepS (rate a b : Int) : Bool := (fixMul rate b).2 || (fixSub a (fixMul rate b).1).2
def updV (rate : Int) (p g : List Int) : List Int := List.zipWith (stepN rate) p g
def updS (rate : Int) (p g : List Int) : Bool := anyT (List.zipWith (stepS rate) p g)
def updO (rate : Int) (o : OpS) (g : List Int) : OpS := ⟨o.k, o.i, o.o, updV rate o.p g⟩
def learnM (rate : Int) (l : List OpS) (r : List (List Int)) : List OpS := List.zipWith (updO rate) l r
def learnS (rate : Int) (l : List OpS) (r : List (List Int)) : Bool := anyT (List.zipWith (fun o g => updS rate o.p g) l r)
def LearnP (rate : Int) (l : List OpS) (r : List (List Int)) : Prop := ModelP l ∧ fixOk rate = true ∧ FitP l r

theorem vO_setd {l : List OpS} {n m : Nat} {v : Int} : D.sl ((vO l).l.modify n fun x => x.modify 3 fun y => .sl (y.l.modify m fun z => z.set 0 (.int v))) = vO (l.modify n fun o => ⟨o.k, o.i, o.o, o.p.set m v⟩) := by
  unfold vO
  simp only [D.l_sl]
  rw [modify_map (h := fun o => ⟨o.k, o.i, o.o, o.p.set m v⟩)]
  intro a
  simp only [List.modify_succ_cons, List.modify_zero_cons]
  unfold vI
  simp only [D.l_sl]
  rw [modify_map (h := fun _ => v) (by intro a; rfl), modify_const]

/-- Operations, of which the first have learnt. -/
def Part (l : List OpS) (r : List (List Int)) (rate : Int) (j : Nat) (c : List OpS) : Prop := c.length = l.length ∧ ∀ (i : Nat) (x : OpS) (g : List Int) (y : OpS), l[i]? = some x → r[i]? = some g → c[i]? = some y → y = if i < j then updO rate x g else x
def PartV (p g : List Int) (rate : Int) (j : Nat) (q : List Int) : Prop := q.length = p.length ∧ ∀ (i : Nat) (a b c : Int), p[i]? = some a → g[i]? = some b → q[i]? = some c → c = if i < j then stepN rate a b else a

theorem PartV.done {p g q : List Int} {rate : Int} (h : PartV p g rate p.length q) (hn : g.length = p.length) : q = updV rate p g := by
  apply List.ext_getElem?
  intro i
  by_cases hi : i < p.length
  · obtain ⟨a, ha⟩ := at_some hi
    obtain ⟨b, hb⟩ := at_some (l := g) (n := i) (by omega)
    obtain ⟨c, hc⟩ := at_some (l := q) (n := i) (by have := h.1; omega)
    have := h.2 i a b c ha hb hc
    rw [if_pos hi] at this
    unfold updV
    rw [hc, zip_at ha hb, this]
  · rw [List.getElem?_eq_none (by have := h.1; omega), List.getElem?_eq_none (by unfold updV; simp; omega)]
theorem Part.done {l c : List OpS} {r : List (List Int)} {rate : Int} (h : Part l r rate l.length c) (hn : r.length = l.length) : c = learnM rate l r := by
  apply List.ext_getElem?
  intro i
  by_cases hi : i < l.length
  · obtain ⟨a, ha⟩ := at_some hi
    obtain ⟨b, hb⟩ := at_some (l := r) (n := i) (by omega)
    obtain ⟨y, hy⟩ := at_some (l := c) (n := i) (by have := h.1; omega)
    have := h.2 i a b y ha hb hy
    rw [if_pos hi] at this
    unfold learnM
    rw [hy, zip_at ha hb, this]
  · rw [List.getElem?_eq_none (by have := h.1; omega), List.getElem?_eq_none (by unfold learnM; simp; omega)]
theorem Part.start {l : List OpS} {r : List (List Int)} {rate : Int} : Part l r rate 0 l :=
  ⟨rfl, fun i x g y hx hg hy => by rw [if_neg (by omega)]; rw [hx] at hy; exact (Option.some.inj hy).symm⟩
theorem PartV.start {p g : List Int} {rate : Int} : PartV p g rate 0 p :=
  ⟨rfl, fun i a b c ha hb hc => by rw [if_neg (by omega)]; rw [ha] at hc; exact (Option.some.inj hc).symm⟩
theorem PartV.step {p g q : List Int} {rate : Int} {j : Nat} (h : PartV p g rate j q) {a b : Int} (ha : p[j]? = some a) (hb : g[j]? = some b) : PartV p g rate (j + 1) (q.set j (stepN rate a b)) := by
  refine ⟨by simp [h.1], fun i a' b' c ha' hb' hc => ?_⟩
  rw [List.getElem?_set] at hc
  by_cases hi : j = i
  · subst hi
    rw [if_pos rfl] at hc
    rw [if_pos (by omega)]
    rw [ha] at ha'
    rw [hb] at hb'
    cases ha'
    cases hb'
    rw [if_pos (by have := h.1; have := lt_of_at ha; omega)] at hc
    exact (Option.some.inj hc).symm
  · rw [if_neg hi] at hc
    have := h.2 i a' b' c ha' hb' hc
    rw [this]
    by_cases h1 : i < j
    · rw [if_pos h1, if_pos (by omega)]
    · rw [if_neg h1, if_neg (by omega)]
/-- While one of them learns. -/
def Mid (l : List OpS) (r : List (List Int)) (rate : Int) (j i : Nat) (x : OpS) (g : List Int) (c : List OpS) : Prop :=
  c.length = l.length ∧ (∀ (k : Nat) (u : OpS) (v : List Int) (y : OpS), k ≠ j → l[k]? = some u → r[k]? = some v → c[k]? = some y → y = if k < j then updO rate u v else u) ∧ ∃ q, c[j]? = some ⟨x.k, x.i, x.o, q⟩ ∧ PartV x.p g rate i q
theorem Part.mid {l c : List OpS} {r : List (List Int)} {rate : Int} {j : Nat} {x : OpS} {g : List Int} (h : Part l r rate j c) (hx : l[j]? = some x) (hg : r[j]? = some g) : Mid l r rate j 0 x g c := by
  obtain ⟨y, hy⟩ := at_some (l := c) (n := j) (by have := h.1; have := lt_of_at hx; omega)
  have := h.2 j x g y hx hg hy
  rw [if_neg (by omega)] at this
  subst this
  exact ⟨h.1, fun k u v y hk hu hv hy => h.2 k u v y hu hv hy, y.p, hy, .start⟩
theorem Mid.step {l c : List OpS} {r : List (List Int)} {rate : Int} {j i : Nat} {x : OpS} {g : List Int} (h : Mid l r rate j i x g c) {a b : Int} (ha : x.p[i]? = some a) (hb : g[i]? = some b) :
    Mid l r rate j (i + 1) x g (c.modify j fun o => ⟨o.k, o.i, o.o, o.p.set i (stepN rate a b)⟩) := by
  obtain ⟨h1, h2, q, h3, h4⟩ := h
  refine ⟨by simp [h1], ?_, q.set i (stepN rate a b), ?_, h4.step ha hb⟩
  · intro k u v y hk hu hv hy
    obtain ⟨z, hz⟩ := at_some (l := c) (n := k) (by have := lt_of_at hu; omega)
    have hjk : ¬ j = k := fun e => hk e.symm
    rw [List.getElem?_modify, hz] at hy
    simp [hjk] at hy
    subst hy
    exact h2 k u v z hk hu hv hz
  · rw [List.getElem?_modify, h3]
    simp
theorem Mid.done {l c : List OpS} {r : List (List Int)} {rate : Int} {j : Nat} {x : OpS} {g : List Int} (h : Mid l r rate j x.p.length x g c) (hx : l[j]? = some x) (hg : r[j]? = some g) (hn : g.length = x.p.length) : Part l r rate (j + 1) c := by
  obtain ⟨h1, h2, q, h3, h4⟩ := h
  refine ⟨h1, fun i u v y hu hv hy => ?_⟩
  by_cases hi : i = j
  · subst hi
    rw [if_pos (by omega)]
    rw [hx] at hu
    rw [hg] at hv
    rw [h3] at hy
    cases hu
    cases hv
    cases hy
    rw [h4.done hn]
    rfl
  · rw [h2 i u v y hi hu hv hy]
    by_cases h5 : i < j
    · rw [if_pos h5, if_pos (by omega)]
    · rw [if_neg h5, if_neg (by omega)]

def IOs (r : List OpS) (k : Nat) (vs : List D) : Prop := ∃ j : Nat, vs = [.int j, vO (r.take j)] ∧ j ≤ r.length ∧ k = r.length - j
theorem IOs.start {r : List OpS} : IOs r r.length [.int 0, vO []] := ⟨0, rfl, Nat.zero_le _, rfl⟩
theorem IOs.again {r : List OpS} {j : Nat} {x : OpS} {i : Int} (hx : r[j]? = some x) (hi : i = ((j + 1 : Nat) : Int)) : ∃ k', k' < r.length - j ∧ IOs r k' [.int i, vO (r.take j ++ [⟨x.k, x.i, x.o, x.p⟩])] := by
  have := lt_of_at hx
  exact ⟨r.length - (j + 1), by omega, j + 1, by rw [hi, take_step hx], this, rfl⟩
theorem L_i_copyOps {l : List OpS} (h : Mo l) : Pr i_copyOps [vO l] ∧ G i_copyOps [vO l] = [vO l] :=
  g_i_copyOps (Q := fun q => q = _) (by
    have h1 := h.1
    unfold Sm at h1
    unfold t_i_copyOps
    refine wp_loop (IOs l) rfl l.length .start ?_
    rintro k _ ⟨j, rfl, hj, rfl⟩
    by_cases hlt : j < l.length
    · obtain ⟨x, hx⟩ := at_some hlt
      simp [-getElem?_pos, hlt, cel_vO0 hx, cel_vO1 hx, cel_vO2 hx, cel_vO3 hx, L_i_copyInts (h.at hx), chunks, vO_push]
      exact ⟨by omega, IOs.again hx (wS (by omega))⟩
    · have : j = l.length := by omega
      subst this
      simp)
theorem L_i_copyModel {l : List OpS} (h : Mo l) : Pr i_copyModel [vO l] ∧ G i_copyModel [vO l] = [vO l] :=
  g_i_copyModel (Q := fun q => q = _) (by
    unfold t_i_copyModel
    simp [L_i_copyOps h])

def ILo (l : List OpS) (r : List (List Int)) (rate : Int) (k : Nat) (vs : List D) : Prop := ∃ (j : Nat) (c : List OpS), vs = [.int j, .bool (anyT ((List.zipWith (fun o g => updS rate o.p g) l r).take j)), vO c] ∧ Part l r rate j c ∧ j ≤ l.length ∧ k = l.length - j
def ILi (l : List OpS) (r : List (List Int)) (rate : Int) (j : Nat) (x : OpS) (g : List Int) (k : Nat) (vs : List D) : Prop :=
  ∃ (i : Nat) (c : List OpS), vs = [.int j, .int j, .int j, .int x.p.length, .int i, .bool (anyT ((List.zipWith (fun o g => updS rate o.p g) l r).take j) || anyT ((List.zipWith (stepS rate) x.p g).take i)), vO c] ∧ Mid l r rate j i x g c ∧ i ≤ x.p.length ∧ k = x.p.length - i

theorem or2 (a b : Bool) : (a = true ∨ b = true) ∨ a = false ∧ b = false := by cases a <;> cases b <;> simp
theorem or3 (a b c : Bool) : (a = false → b = false → c = true) ∨ a = false ∧ b = false ∧ c = false := by cases a <;> cases b <;> cases c <;> simp
theorem L_i_Learn_ok {l : List OpS} {r : List (List Int)} {x y : D} {rate : Int} (h : LearnP rate l r) : Pr i_Learn [vO l, vR r, x, y, .int rate] ∧ G i_Learn [vO l, vR r, x, y, .int rate] = [vO (learnM rate l r), .bool (learnS rate l r)] :=
  g_i_Learn (Q := fun q => q = _) (by
    obtain ⟨hm, hr, hf⟩ := h
    have hmo := hm.mo
    have e1 := L_i_copyModel hmo
    obtain ⟨b2, e2, p2⟩ := L_i_ModelOk hmo.1 hmo.2
    obtain ⟨b3, e3, p3⟩ := L_i_gradsFit (r := r) hmo.1
    have q2 := p2.mpr hm
    have q3 := p3.mpr hf
    subst q2
    subst q3
    have hl := hmo.1
    unfold Sm at hl
    unfold t_i_Learn
    simp [e1, e2, e3, hr]
    refine wp_loop (ILo l r rate) rfl l.length ⟨0, l, by simp [e1, anyT], .start, by omega, rfl⟩ ?_
    rintro k _ ⟨j, c, rfl, hc, hj, rfl⟩
    by_cases hlt : j < l.length
    · obtain ⟨u, hu⟩ := at_some hlt
      obtain ⟨g, hg⟩ := at_some (l := r) (n := j) (by have := hf.1; omega)
      have hgl := hf.2 j u g hu hg
      have hul := hmo.at hu
      have hmid := hc.mid hu hg
      have hmid' := hmid
      obtain ⟨hc1, hc2, q, hc3, hc4⟩ := hmid'
      simp [-getElem?_pos, e1, hlt, hc.1]
      refine wp_loop (ILi l r rate j u g) rfl u.p.length ⟨0, c, by simp [cel_vO3 hc3, hc4.1, anyT], hmid, by omega, rfl⟩ ?_
      rintro k _ ⟨i, c, rfl, hmid, hi, rfl⟩
      have hmid' := hmid
      obtain ⟨hc1, hc2, q, hc3, hc4⟩ := hmid'
      by_cases hlt2 : i < u.p.length
      · obtain ⟨a, ha⟩ := at_some hlt2
        obtain ⟨b, hb⟩ := at_some (l := g) (n := i) (by omega)
        obtain ⟨d, hd⟩ := at_some (l := q) (n := i) (by have := hc4.1; omega)
        have hda := hc4.2 i a b d ha hb hd
        rw [if_neg (by omega)] at hda
        subst hda
        have hlr : j < r.length := lt_of_at hg
        simp [-getElem?_pos, hlt2, hlr, cel_vR hg, cel_vO3 hc3, hb, hd, hgl, hc4.1, vO_setd]
        refine ⟨or2 _ _, or3 _ _ _, u.p.length - (i + 1), by omega, i + 1, _, ?_, hmid.step ha hb, by omega, rfl⟩
        rw [wS (by omega), take_step (zip_at ha hb), anyT_push]
        simp [stepN, stepS, Bool.or_assoc]
      · have : i = u.p.length := by omega
        subst this
        simp
        refine ⟨l.length - (j + 1), by omega, j + 1, c, ?_, hmid.done hu hg hgl, by omega, rfl⟩
        have ez : (List.zipWith (stepS rate) u.p g).take u.p.length = List.zipWith (stepS rate) u.p g := List.take_of_length_le (by simp; omega)
        rw [wS (by omega), take_step (zip_at hu hg), anyT_push, ez]
        rfl
    · have : j = l.length := by omega
      subst this
      simp [e1]
      rw [hc.done hf.1, List.take_of_length_le (by simp; omega)]
      exact ⟨rfl, rfl⟩)

theorem L_i_Learn_no {l : List OpS} {r : List (List Int)} {x y : D} {rate : Int} (hmo : Mo l) (h : ¬ LearnP rate l r) : Pr i_Learn [vO l, vR r, x, y, .int rate] ∧ G i_Learn [vO l, vR r, x, y, .int rate] = [vO l, .bool false] :=
  g_i_Learn (Q := fun q => q = _) (by
    have e1 := L_i_copyModel hmo
    obtain ⟨b2, e2, p2⟩ := L_i_ModelOk hmo.1 hmo.2
    obtain ⟨b3, e3, p3⟩ := L_i_gradsFit (r := r) hmo.1
    unfold t_i_Learn
    simp [e1, e2, e3]
    refine ⟨by cases b2 <;> cases fixOk rate <;> simp, ?_⟩
    intro h2 h3 h4
    exact absurd ⟨p2.mp h2, h3, p3.mp h4⟩ h)

end Go.Sx
