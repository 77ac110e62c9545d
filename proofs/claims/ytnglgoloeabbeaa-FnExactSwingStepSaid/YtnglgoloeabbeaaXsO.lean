/-
  What the program's functions compute, as plain data: each from its tree.
-/
import Derived.Test.YtnglgoloeabbeaaXsN
namespace Go.Sx
open Go
set_option linter.unusedSimpArgs false
set_option linter.unusedVariables false


theorem l2Sat_le {x : Int} : -2147483647 ≤ (l2Sat x).1 ∧ (l2Sat x).1 ≤ 2147483647 := by
  unfold l2Sat
  split
  · simp
  · split
    · simp
    · simp; omega
theorem l2In_id {x : Int} (h : fixOk x = true) : l2In x = x := by
  have := fixOk_iff.mp h
  unfold l2In l2Sat
  rw [if_neg (by omega), if_neg (by omega)]
theorem fixMul_zero {b : Int} : fixMul 0 b = (0, false) := by
  have h : l2In 0 = 0 := l2In_id (by decide)
  unfold fixMul
  rw [h, Int.zero_mul]
  decide
theorem stepN_zero {a b : Int} (h : fixOk a = true) : stepN 0 a b = a := by
  have h0 : l2In 0 = 0 := l2In_id (by decide)
  unfold stepN
  rw [fixMul_zero]
  unfold fixSub
  rw [h0, l2In_id h, Int.sub_zero]
  have := fixOk_iff.mp h
  unfold l2Sat
  rw [if_neg (by omega), if_neg (by omega)]
theorem all_at {l : List Int} {j : Nat} {x : Int} (h : l.all fixOk = true) (hx : l[j]? = some x) : fixOk x = true := List.all_eq_true.mp h x (List.mem_of_getElem? hx)
theorem updV_zero {p g : List Int} (h : p.all fixOk = true) (hn : g.length = p.length) : updV 0 p g = p := by
  apply List.ext_getElem?
  intro i
  by_cases hi : i < p.length
  · obtain ⟨a, ha⟩ := at_some hi
    obtain ⟨b, hb⟩ := at_some (l := g) (n := i) (by omega)
    unfold updV
    rw [zip_at ha hb, ha, stepN_zero (all_at h ha)]
  · rw [List.getElem?_eq_none (by unfold updV; simp; omega), List.getElem?_eq_none (by omega)]
theorem learnM_at {rate : Int} {l : List OpS} {r : List (List Int)} {j : Nat} {x : OpS} {g : List Int} (hx : l[j]? = some x) (hg : r[j]? = some g) : (learnM rate l r)[j]? = some (updO rate x g) := zip_at hx hg
theorem learnM_len {rate : Int} {l : List OpS} {r : List (List Int)} (h : r.length = l.length) : (learnM rate l r).length = l.length := by
  unfold learnM
  simp [h]
theorem learnM_zero {l : List OpS} {r : List (List Int)} (h : LearnP 0 l r) : learnM 0 l r = l := by
  obtain ⟨hm, _, hf⟩ := h
  apply List.ext_getElem?
  intro i
  by_cases hi : i < l.length
  · obtain ⟨a, ha⟩ := at_some hi
    obtain ⟨b, hb⟩ := at_some (l := r) (n := i) (by have := hf.1; omega)
    rw [learnM_at ha hb, ha]
    unfold updO
    rw [updV_zero (opOk_iff.mp (hm.2.1 a (List.mem_of_getElem? ha))).2.2.2.2.2 (hf.2 i a b ha hb)]
  · rw [List.getElem?_eq_none (by rw [learnM_len hf.1]; omega), List.getElem?_eq_none (by omega)]

/-- The same shape. -/
def SameSh (l c : List OpS) : Prop := c.length = l.length ∧ ∀ (j : Nat) (x y : OpS), l[j]? = some x → c[j]? = some y → y.k = x.k ∧ y.i = x.i ∧ y.o = x.o ∧ y.p.length = x.p.length
theorem SameSh.refl {l : List OpS} : SameSh l l := ⟨rfl, fun j x y hx hy => by rw [hx] at hy; cases hy; exact ⟨rfl, rfl, rfl, rfl⟩⟩
theorem learnM_shape {rate : Int} {l : List OpS} {r : List (List Int)} (hf : FitP l r) : SameSh l (learnM rate l r) := by
  refine ⟨learnM_len hf.1, fun j x y hx hy => ?_⟩
  obtain ⟨g, hg⟩ := at_some (l := r) (n := j) (by have := hf.1; have := lt_of_at hx; omega)
  rw [learnM_at hx hg] at hy
  cases hy
  have := hf.2 j x g hx hg
  exact ⟨rfl, rfl, rfl, by unfold updO updV; simp; omega⟩
theorem updV_ok {rate : Int} {p g : List Int} : (updV rate p g).all fixOk = true := by
  rw [List.all_eq_true]
  intro x hx
  obtain ⟨j, hj⟩ := List.mem_iff_getElem?.mp hx
  unfold updV at hj
  rw [List.getElem?_zipWith] at hj
  cases h1 : p[j]? with
  | none => simp [h1] at hj
  | some a =>
    cases h2 : g[j]? with
    | none => simp [h1, h2] at hj
    | some b =>
      simp [h1, h2] at hj
      subst hj
      exact fixOk_of l2Sat_le
theorem learnM_ok {rate : Int} {l : List OpS} {r : List (List Int)} (h : LearnP rate l r) : ModelP (learnM rate l r) := by
  obtain ⟨hm, _, hf⟩ := h
  have hs := learnM_shape (rate := rate) hf
  refine ⟨by rw [hs.1]; exact hm.1, ?_, ?_⟩
  · intro o ho
    obtain ⟨j, hj⟩ := List.mem_iff_getElem?.mp ho
    have hlt := lt_of_at hj
    rw [hs.1] at hlt
    obtain ⟨x, hx⟩ := at_some hlt
    obtain ⟨g, hg⟩ := at_some (l := r) (n := j) (by have := hf.1; omega)
    have h1 := hs.2 j x o hx hj
    have h2 := opOk_iff.mp (hm.2.1 x (List.mem_of_getElem? hx))
    rw [learnM_at hx hg] at hj
    have e := (Option.some.inj hj).symm
    refine opOk_iff.mpr ⟨by rw [h1.1]; exact h2.1, by rw [h1.2.1]; exact h2.2.1, by rw [h1.2.2.1]; exact h2.2.2.1, by rw [h1.1, h1.2.1, h1.2.2.1]; exact h2.2.2.2.1, by rw [h1.1, h1.2.1, h1.2.2.1, h1.2.2.2]; exact h2.2.2.2.2.1, ?_⟩
    rw [e]
    exact updV_ok
  · intro j x y hx hy
    have h1 := lt_of_at hx
    have h2 := lt_of_at hy
    rw [hs.1] at h1 h2
    obtain ⟨u, hu⟩ := at_some h1
    obtain ⟨v, hv⟩ := at_some h2
    rw [(hs.2 _ _ _ hu hx).2.2.1, (hs.2 _ _ _ hv hy).2.1]
    exact hm.2.2 j u v hu hv

/-- What learning gives, in short. -/
theorem L_i_Learn_one {l : List OpS} {r : List (List Int)} {x y : D} {rate : Int} (hmo : Mo l) : ∃ (c : List OpS) (s : Bool), (Pr i_Learn [vO l, vR r, x, y, .int rate] ∧ G i_Learn [vO l, vR r, x, y, .int rate] = [vO c, .bool s]) ∧ SameSh l c ∧ (ModelP l ↔ ModelP c) ∧ Mo c ∧ (rate = 0 → c = l) := by
  by_cases h : LearnP rate l r
  · refine ⟨_, _, L_i_Learn_ok h, learnM_shape h.2.2, ⟨fun _ => learnM_ok h, fun _ => h.1⟩, (learnM_ok h).mo, ?_⟩
    intro h0
    subst h0
    exact learnM_zero h
  · exact ⟨_, _, L_i_Learn_no hmo h, SameSh.refl, Iff.rfl, hmo, fun _ => rfl⟩

theorem vR_take {l : List (List Int)} {n : Nat} : D.sl ((vR l).l.take n) = vR (l.take n) := by simp [vR]
theorem vO_set1 {l : List OpS} {n : Nat} {v : Int} : D.sl ((vO l).l.modify n fun x => x.set 1 (.int v)) = vO (l.modify n fun o => ⟨o.k, v, o.o, o.p⟩) := by
  unfold vO
  simp only [D.l_sl]
  rw [modify_map (h := fun o => ⟨o.k, v, o.o, o.p⟩) (by intro a; rfl)]
theorem Mo.modify {l : List OpS} (h : Mo l) {n : Nat} {f : OpS → OpS} (hf : ∀ o, (f o).p = o.p) : Mo (l.modify n f) := by
  have h1 := h.1
  unfold Sm at h1
  refine ⟨by unfold Sm; simp; omega, fun o ho => ?_⟩
  obtain ⟨j, hj⟩ := List.mem_iff_getElem?.mp ho
  rw [List.getElem?_modify] at hj
  cases hx : l[j]? with
  | none => simp [hx] at hj
  | some x =>
    simp [hx] at hj
    have := h.at hx
    subst hj
    split
    · rw [hf]; exact this
    · exact this

def OutDL (q : List D) : Prop := ∃ (l : List OpS) (r : List (List Int)) (x : Int) (s : Bool) (k : Int), q = [vO l, vR r, .int x, .bool s, .int k] ∧ Mo l
theorem OutDL.mk {l : List OpS} {r : List (List Int)} {x : Int} {s : Bool} {k : Int} (h : Mo l) : OutDL [vO l, vR r, .int x, .bool s, .int k] := ⟨l, r, x, s, k, rfl, h⟩

end Go.Sx
