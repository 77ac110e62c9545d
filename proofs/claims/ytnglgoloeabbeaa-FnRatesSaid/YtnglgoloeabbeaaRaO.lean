/-
  What the program's functions compute, as plain data: each from its tree.
-/
import Derived.Test.YtnglgoloeabbeaaRaN
namespace Go.Sx
open Go
set_option linter.unusedSimpArgs false
set_option linter.unusedVariables false


theorem l2Sat_le {x : Int} : -2147483647 ≤ (l2Sat x).1 ∧ (l2Sat x).1 ≤ 2147483647 := by
  unfold l2Sat
  split
  · simp
  · split
    · simp
    · simp; omega
theorem l2In_id {x : Int} (h : fixOk x = true) : l2In x = x := by
  have := fixOk_iff.mp h
  unfold l2In l2Sat
  rw [if_neg (by omega), if_neg (by omega)]
theorem fixMul_zero {b : Int} : fixMul 0 b = (0, false) := by
  have h : l2In 0 = 0 := l2In_id (by decide)
  unfold fixMul
  rw [h, Int.zero_mul]
  decide
theorem stepN_zero {a b : Int} (h : fixOk a = true) : stepN 0 a b = a := by
  have h0 : l2In 0 = 0 := l2In_id (by decide)
  unfold stepN
  rw [fixMul_zero]
  unfold fixSub
  rw [h0, l2In_id h, Int.sub_zero]
  have := fixOk_iff.mp h
  unfold l2Sat
  rw [if_neg (by omega), if_neg (by omega)]
theorem all_at {l : List Int} {j : Nat} {x : Int} (h : l.all fixOk = true) (hx : l[j]? = some x) : fixOk x = true := List.all_eq_true.mp h x (List.mem_of_getElem? hx)
theorem updV_zero {p g : List Int} (h : p.all fixOk = true) (hn : g.length = p.length) : updV 0 p g = p := by
  apply List.ext_getElem?
  intro i
  by_cases hi : i < p.length
  · obtain ⟨a, ha⟩ := at_some hi
    obtain ⟨b, hb⟩ := at_some (l := g) (n := i) (by omega)
    unfold updV
    rw [zip_at ha hb, ha, stepN_zero (all_at h ha)]
  · rw [List.getElem?_eq_none (by unfold updV; simp; omega), List.getElem?_eq_none (by omega)]
theorem learnM_at {rate : Int} {l : List OpS} {r : List (List Int)} {j : Nat} {x : OpS} {g : List Int} (hx : l[j]? = some x) (hg : r[j]? = some g) : (learnM rate l r)[j]? = some (updO rate x g) := zip_at hx hg
theorem learnM_len {rate : Int} {l : List OpS} {r : List (List Int)} (h : r.length = l.length) : (learnM rate l r).length = l.length := by
  unfold learnM
  simp [h]
theorem learnM_zero {l : List OpS} {r : List (List Int)} (h : LearnP 0 l r) : learnM 0 l r = l := by
  obtain ⟨hm, _, hf⟩ := h
  apply List.ext_getElem?
  intro i
  by_cases hi : i < l.length
  · obtain ⟨a, ha⟩ := at_some hi
    obtain ⟨b, hb⟩ := at_some (l := r) (n := i) (by have := hf.1; omega)
    rw [learnM_at ha hb, ha]
    unfold updO
    rw [updV_zero (opOk_iff.mp (hm.2.1 a (List.mem_of_getElem? ha))).2.2.2.2.2 (hf.2 i a b ha hb)]
  · rw [List.getElem?_eq_none (by rw [learnM_len hf.1]; omega), List.getElem?_eq_none (by omega)]

/-- The same shape. -/
def SameSh (l c : List OpS) : Prop := c.length = l.length ∧ ∀ (j : Nat) (x y : OpS), l[j]? = some x → c[j]? = some y → y.k = x.k ∧ y.i = x.i ∧ y.o = x.o ∧ y.p.length = x.p.length
theorem SameSh.refl {l : List OpS} : SameSh l l := ⟨rfl, fun j x y hx hy => by rw [hx] at hy; cases hy; exact ⟨rfl, rfl, rfl, rfl⟩⟩
theorem learnM_shape {rate : Int} {l : List OpS} {r : List (List Int)} (hf : FitP l r) : SameSh l (learnM rate l r) := by
  refine ⟨learnM_len hf.1, fun j x y hx hy => ?_⟩
  obtain ⟨g, hg⟩ := at_some (l := r) (n := j) (by have := hf.1; have := lt_of_at hx; omega)
  rw [learnM_at hx hg] at hy
  cases hy
  have := hf.2 j x g hx hg
  exact ⟨rfl, rfl, rfl, by unfold updO updV; simp; omega⟩
theorem updV_ok {rate : Int} {p g : List Int} : (updV rate p g).all fixOk = true := by
  rw [List.all_eq_true]
  intro x hx
  obtain ⟨j, hj⟩ := List.mem_iff_getElem?.mp hx
  unfold updV at hj
  rw [List.getElem?_zipWith] at hj
  cases h1 : p[j]? with
  | none => simp [h1] at hj
  | some a =>
    cases h2 : g[j]? with
    | none => simp [h1, h2] at hj
    | some b =>
      simp [h1, h2] at hj
      subst hj
      exact fixOk_of l2Sat_le
theorem learnM_ok {rate : Int} {l : List OpS} {r : List (List Int)} (h : LearnP rate l r) : ModelP (learnM rate l r) := by
  obtain ⟨hm, _, hf⟩ := h
  have hs := learnM_shape (rate := rate) hf
  refine ⟨by rw [hs.1]; exact hm.1, ?_, ?_⟩
  · intro o ho
    obtain ⟨j, hj⟩ := List.mem_iff_getElem?.mp ho
    have hlt := lt_of_at hj
    rw [hs.1] at hlt
    obtain ⟨x, hx⟩ := at_some hlt
    obtain ⟨g, hg⟩ := at_some (l := r) (n := j) (by have := hf.1; omega)
    have h1 := hs.2 j x o hx hj
    have h2 := opOk_iff.mp (hm.2.1 x (List.mem_of_getElem? hx))
    rw [learnM_at hx hg] at hj
    have e := (Option.some.inj hj).symm
    refine opOk_iff.mpr ⟨by rw [h1.1]; exact h2.1, by rw [h1.2.1]; exact h2.2.1, by rw [h1.2.2.1]; exact h2.2.2.1, by rw [h1.1, h1.2.1, h1.2.2.1]; exact h2.2.2.2.1, by rw [h1.1, h1.2.1, h1.2.2.1, h1.2.2.2]; exact h2.2.2.2.2.1, ?_⟩
    rw [e]
    exact updV_ok
  · intro j x y hx hy
    have h1 := lt_of_at hx
    have h2 := lt_of_at hy
    rw [hs.1] at h1 h2
    obtain ⟨u, hu⟩ := at_some h1
    obtain ⟨v, hv⟩ := at_some h2
    rw [(hs.2 _ _ _ hu hx).2.2.1, (hs.2 _ _ _ hv hy).2.1]
    exact hm.2.2 j u v hu hv

/-- What learning gives, in short. -/
theorem L_i_Learn_one {l : List OpS} {r : List (List Int)} {x y : D} {rate : Int} (hmo : Mo l) : ∃ (c : List OpS) (s : Bool), (Pr i_Learn [vO l, vR r, x, y, .int rate] ∧ G i_Learn [vO l, vR r, x, y, .int rate] = [vO c, .bool s]) ∧ SameSh l c ∧ (ModelP l ↔ ModelP c) ∧ Mo c ∧ (rate = 0 → c = l) := by
  by_cases h : LearnP rate l r
  · refine ⟨_, _, L_i_Learn_ok h, learnM_shape h.2.2, ⟨fun _ => learnM_ok h, fun _ => h.1⟩, (learnM_ok h).mo, ?_⟩
    intro h0
    subst h0
    exact learnM_zero h
  · exact ⟨_, _, L_i_Learn_no hmo h, SameSh.refl, Iff.rfl, hmo, fun _ => rfl⟩

theorem L_s_SameOp_refl {k i o : Int} {p : List Int} (h : Sm p) : Pr s_SameOp [.int k, .int i, .int o, vI p, .int k, .int i, .int o, vI p] ∧ G s_SameOp [.int k, .int i, .int o, vI p, .int k, .int i, .int o, vI p] = [.bool true] :=
  g_s_SameOp (Q := fun q => q = _) (by
    unfold t_s_SameOp
    simp [L_s_SameVec h])
theorem L_s_SameModel_refl {l : List OpS} (h : Mo l) : Pr s_SameModel [vO l, vO l] ∧ G s_SameModel [vO l, vO l] = [.bool true] :=
  g_s_SameModel (Q := fun q => q = _) (by
    have hl := h.1
    unfold Sm at hl
    unfold t_s_SameModel
    simp
    refine wp_loop (fun k vs => ∃ j : Nat, vs = [.int j] ∧ j ≤ l.length ∧ k = l.length - j) rfl l.length ⟨0, rfl, by omega, by omega⟩ ?_
    rintro k _ ⟨j, rfl, hj, rfl⟩
    by_cases hlt : j < l.length
    · obtain ⟨x, hx⟩ := at_some hlt
      simp [-getElem?_pos, hlt, cel_vO0 hx, cel_vO1 hx, cel_vO2 hx, cel_vO3 hx, L_s_SameOp_refl (h.at hx)]
      exact ⟨_, by omega, j + 1, wS (by omega), by omega, rfl⟩
    · simp [hlt])

theorem vR_take {l : List (List Int)} {n : Nat} : D.sl ((vR l).l.take n) = vR (l.take n) := by simp [vR]
theorem vO_set1 {l : List OpS} {n : Nat} {v : Int} : D.sl ((vO l).l.modify n fun x => x.set 1 (.int v)) = vO (l.modify n fun o => ⟨o.k, v, o.o, o.p⟩) := by
  unfold vO
  simp only [D.l_sl]
  rw [modify_map (h := fun o => ⟨o.k, v, o.o, o.p⟩) (by intro a; rfl)]
theorem Mo.modify {l : List OpS} (h : Mo l) {n : Nat} {f : OpS → OpS} (hf : ∀ o, (f o).p = o.p) : Mo (l.modify n f) := by
  have h1 := h.1
  unfold Sm at h1
  refine ⟨by unfold Sm; simp; omega, fun o ho => ?_⟩
  obtain ⟨j, hj⟩ := List.mem_iff_getElem?.mp ho
  rw [List.getElem?_modify] at hj
  cases hx : l[j]? with
  | none => simp [hx] at hj
  | some x =>
    simp [hx] at hj
    have := h.at hx
    subst hj
    split
    · rw [hf]; exact this
    · exact this

def OutDL (q : List D) : Prop := ∃ (l : List OpS) (r : List (List Int)) (x : Int) (s : Bool) (k : Int), q = [vO l, vR r, .int x, .bool s, .int k] ∧ Mo l
theorem OutDL.mk {l : List OpS} {r : List (List Int)} {x : Int} {s : Bool} {k : Int} (h : Mo l) : OutDL [vO l, vR r, .int x, .bool s, .int k] := ⟨l, r, x, s, k, rfl, h⟩

set_option maxRecDepth 100000 in
theorem L_s_DrawLearn {cd : List (List D)} (h : cd.length ≤ 1048576) : ∃ (l : List OpS) (r : List (List Int)) (x : Int) (s : Bool) (k : Int), (Pr s_DrawLearn [.sl cd] ∧ G s_DrawLearn [.sl cd] = [vO l, vR r, .int x, .bool s, .int k]) ∧ Mo l := by
  obtain ⟨x, e1⟩ := L_s_l1New h
  obtain ⟨l, i2, h2, e2, b2, c2⟩ := L_s_l6Model (cd := cd) (i := 0) (h := x) ⟨by omega, by omega, h⟩
  have hmo := b2.1.mo
  obtain ⟨p, i3, h3, e3, b3, c3⟩ := L_s_l6Batch (h := h2) hmo b2.1 c2
  obtain ⟨g, e4, b4, n4⟩ := L_s_Sequential hmo b3
  obtain ⟨x5, i5, h5, e5, b5, c5⟩ := L_s_l1Below (h := h3) (m := 12) c3 (by omega)
  obtain ⟨x6, i6, h6, e6, b6, c6⟩ := L_s_l1PickInt (h := h5) (l := [655, 65536, 0, -65536, 2147483648, 8192]) c5 (by decide)
  have v6 : D.sl (chunks 1 6 [.int 655, .int 65536, .int 0, .int (-65536), .int 2147483648, .int 8192]) = vI [655, 65536, 0, -65536, 2147483648, 8192] := rfl
  have hl := b2.1.1
  obtain ⟨z, hz⟩ := at_some (l := g.rows) (n := 0) (by omega)
  have cz := cel_vR hz
  simp only [Int.natCast_zero] at cz
  have sz := b4.2.at hz
  have w1 : IntKind.wrap .i64 ((l.length : Int) - 1) = (l.length : Int) - 1 := w64 (by omega) (by omega)
  have := g_s_DrawLearn (ds := [.sl cd]) (Q := OutDL) (by
    unfold t_s_DrawLearn
    by_cases k0 : x5 = 0
    · simp [-getElem?_pos, e1, e2, e3, e4, e5, e6, v6, k0, n4, w1, vR_take]
      exact ⟨by omega, by omega, .mk hmo⟩
    by_cases k1 : x5 = 1
    · simp [-getElem?_pos, e1, e2, e3, e4, e5, e6, v6, k1, n4, vO_set1]
      exact ⟨by omega, .mk (hmo.modify fun o => rfl)⟩
    by_cases k2 : x5 = 2
    · simp [-getElem?_pos, e1, e2, e3, e4, e5, e6, v6, k2, n4, cz, mk1, vI_push, vR_set]
      exact ⟨by omega, by omega, by omega, .mk hmo⟩
    · simp [-getElem?_pos, e1, e2, e3, e4, e5, e6, v6, k0, k1, k2]
      exact .mk hmo)
  obtain ⟨h1, l, r, x, s, k, h2, h3⟩ := this
  exact ⟨l, r, x, s, k, ⟨h1, h2⟩, h3⟩

theorem L_w_FnRates {cd : List (List D)} : Pr w_FnRates [.sl cd] ∧ G w_FnRates [.sl cd] = [.bool true] :=
  g_w_FnRates (Q := fun q => q = _) (by
    unfold t_w_FnRates
    by_cases hb : 1048576 < (cd.length : Int)
    · simp [hb]
    · obtain ⟨l, r, x, s, k, e1, hmo⟩ := L_s_DrawLearn (cd := cd) (by omega)
      obtain ⟨c0, s0, e2, _, _, _, z2⟩ := L_i_Learn_one (r := r) (x := .int x) (y := .bool s) (rate := 0) hmo
      have z2 := z2 rfl
      subst z2
      obtain ⟨c, t, e3, hs, hp, hc, _⟩ := L_i_Learn_one (r := r) (x := .int x) (y := .bool s) (rate := k) hmo
      have e4 := L_s_SameModel_refl hmo
      obtain ⟨b5, e5, p5⟩ := L_s_ModelOk hmo.1 hmo.2
      obtain ⟨b6, e6, p6⟩ := L_s_ModelOk hc.1 hc.2
      have hb56 : b5 = b6 := by
        rw [Bool.eq_iff_iff, p5, p6]
        exact hp
      subst hb56
      simp [hb, e1, e2, e3, e4, e5, e6, hs.1]
      have hl := hmo.1
      unfold Sm at hl
      refine wp_loop (fun k vs => ∃ j : Nat, vs = [.int j] ∧ j ≤ c0.length ∧ k = c0.length - j) rfl c0.length ⟨0, rfl, by omega, by omega⟩ ?_
      rintro m _ ⟨j, rfl, hj, rfl⟩
      by_cases hlt : j < c0.length
      · obtain ⟨u, hu⟩ := at_some hlt
        obtain ⟨v, hv⟩ := at_some (l := c) (n := j) (by have := hs.1; omega)
        have hh := hs.2 j u v hu hv
        simp [-getElem?_pos, hlt, e1, e3, hs.1, cel_vO0 hu, cel_vO1 hu, cel_vO2 hu, cel_vO3 hu, cel_vO0 hv, cel_vO1 hv, cel_vO2 hv, cel_vO3 hv, hh.1, hh.2.1, hh.2.2.1, hh.2.2.2]
        exact ⟨_, by omega, j + 1, wS (by omega), by omega, rfl⟩
      · simp [e1, hlt])

end Go.Sx
