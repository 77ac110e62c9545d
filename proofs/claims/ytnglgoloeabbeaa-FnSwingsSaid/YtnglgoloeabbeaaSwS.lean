/-
  What the program's functions compute, as plain data: each from its tree.
-/
import Derived.Test.YtnglgoloeabbeaaSwR
namespace Go.Sx
open Go
set_option linter.unusedSimpArgs false
set_option linter.unusedVariables false


/-- What is drawn for a step. -/
def DrawP (l : List OpS) (v r : List (List Int)) : Prop := Mo l ∧ Gk v ∧ Gk r ∧ AllR r ∧ (r.length = l.length → FitP l r)
def OutDS (cd : List (List D)) (q : List D) : Prop := ∃ (l : List OpS) (v : List (List Int)) (k : Int) (r : List (List Int)) (x : Int) (s : Bool) (i h : Int), q = [vO l, vR v, .int k, vR r, .int x, .bool s, .sl cd, .int i, .int h] ∧ DrawP l v r ∧ Cur cd i
theorem OutDS.mk {cd : List (List D)} {l : List OpS} {v : List (List Int)} {k : Int} {r : List (List Int)} {x : Int} {s : Bool} {i h : Int} (hp : DrawP l v r) (hc : Cur cd i) : OutDS cd [vO l, vR v, .int k, vR r, .int x, .bool s, .sl cd, .int i, .int h] := ⟨l, v, k, r, x, s, i, h, rfl, hp, hc⟩
theorem Gk.take {r : List (List Int)} (h : Gk r) {n : Nat} : Gk (r.take n) := by
  obtain ⟨h1, h2⟩ := h
  unfold Sm at h1
  exact ⟨by unfold Sm; simp; omega, fun y hy => h2 y (List.mem_of_mem_take hy)⟩
theorem vO_set0 {l : List OpS} {n : Nat} {v : Int} : D.sl ((vO l).l.modify n fun x => x.set 0 (.int v)) = vO (l.modify n fun o => ⟨v, o.i, o.o, o.p⟩) := by
  unfold vO
  simp only [D.l_sl]
  rw [modify_map (h := fun o => ⟨v, o.i, o.o, o.p⟩) (by intro a; rfl)]
theorem FitP.modify {l : List OpS} {r : List (List Int)} (h : FitP l r) {n : Nat} {f : OpS → OpS} (hf : ∀ o, (f o).p = o.p) : FitP (l.modify n f) r := by
  refine ⟨by simp [h.1], fun j x y hx hy => ?_⟩
  rw [List.getElem?_modify] at hx
  cases hu : l[j]? with
  | none => simp [hu] at hx
  | some u =>
    simp [hu] at hx
    have := h.2 j u y hu hy
    subst hx
    split
    · rw [hf]; exact this
    · exact this
def IDs (l : List OpS) (n : Nat) (k : Nat) (vs : List D) : Prop := ∃ (j : Nat) (c : List OpS) (v : List (List Int)) (m : Int), vs = [.int j, .int m, vR v, vO c] ∧ (Mo c ∧ Gk v ∧ SameSh l c ∧ v.length = n) ∧ j ≤ 2 ∧ j = k

set_option maxRecDepth 100000 in
theorem L_s_l24Swing {cd : List (List D)} {i h : Int} (hc : Cur cd i) : ∃ (l : List OpS) (v : List (List Int)) (k : Int) (r : List (List Int)) (x : Int) (s : Bool) (i' h' : Int), (Pr s_l24Swing [.sl cd, .int i, .int h] ∧ G s_l24Swing [.sl cd, .int i, .int h] = [vO l, vR v, .int k, vR r, .int x, .bool s, .sl cd, .int i', .int h']) ∧ DrawP l v r ∧ Cur cd i' := by
  obtain ⟨l, i2, h2, e2, b2, c2⟩ := L_s_l6Model (h := h) hc
  have hmo := b2.1.mo
  obtain ⟨p, i3, h3, e3, b3, c3⟩ := L_s_l6Batch (h := h2) hmo b2.1 c2
  obtain ⟨g, e4, b4, f4, a4⟩ := L_s_Sequential hmo b3
  have e5 := L_s_SwingNew hmo b2.1
  obtain ⟨x6, i6, h6, e6, b6, c6⟩ := L_s_l1Below (h := h3) (m := 3) c3 (by omega)
  obtain ⟨x7, i7, h7, e7, b7, c7⟩ := L_s_l1Below (h := h6) (m := 14) c6 (by omega)
  obtain ⟨x8, i8, h8, e8, b8, c8⟩ := L_s_l1PickInt (h := h7) (l := [-1, 1000000]) c7 (by decide)
  have v8 : D.sl (chunks 1 2 [.int (-1), .int 1000000]) = vI [-1, 1000000] := rfl
  have hl := b2.1.1
  have hgl := f4.1
  have := g_s_l24Swing (ds := [.sl cd, .int i, .int h]) (Q := OutDS cd) (by
    unfold t_s_l24Swing
    simp only [wp_ask, c_bool, den_var, denL_cons, denL_nil, den_int, den_bool, D.b_bool, nth_zero, nth_succ, forall_const, den_call', e2, e3, e4, e5, e6, true_and]
    refine wp_loop (IDs l l.length) rfl x6.toNat ⟨x6.toNat, l, zerosOf l, 0, ?_, ⟨hmo, zerosOf_Gk hmo, .refl, by simp [zerosOf]⟩, by omega, rfl⟩ ?_
    · simp [e2, e3, e4, e5, e6]
      omega
    rintro k _ ⟨j, c, v, m, rfl, ⟨hc1, hv, hs, hn⟩, hj2, rfl⟩
    by_cases hj : 0 < j
    · have e9 := L_s_SwingStep (k := m) (r := g.rows) (x := g.loss) (s := g.sat) (rate := 4096) (mom := 32768) hc1 hv
      obtain ⟨c', v', m', s', e10, q1, q2, q3, q4⟩ := stepD_one (k := m) (r := g.rows) (rate := 4096) (mom := 32768) hc1 hv
      rw [e10] at e9
      have wj : IntKind.wrap .i64 ((j : Int) - 1) = ((j - 1 : Nat) : Int) := by rw [w64 (by omega) (by omega)]; omega
      simp [e2, e3, e4, e9, hj, wj]
      exact ⟨j - 1, by omega, j - 1, c', v', m', rfl, ⟨q1, q2, hs.trans q3, by omega⟩, by omega, rfl⟩
    · have hfc := f4.shape hs
      have hD : DrawP c v g.rows := ⟨hc1, hv, b4, a4, fun _ => hfc⟩
      have w1 : IntKind.wrap .i64 ((l.length : Int) - 1) = ((l.length - 1 : Nat) : Int) := by rw [w64 (by omega) (by omega)]; omega
      by_cases k0 : x7 = 0
      · simp [hj, e2, e3, e4, e6, e7, e8, v8, k0]
        exact .mk hD c8
      by_cases k1 : x7 = 1
      · simp [hj, e2, e3, e4, e6, e7, k1, hn, w1, vR_take]
        exact .mk ⟨hc1, hv.take, b4, a4, fun _ => hfc⟩ c7
      by_cases k2 : x7 = 2
      · simp [hj, e2, e3, e4, e6, e7, k2, hgl, w1, vR_take]
        exact .mk ⟨hc1, hv, Gk.take b4, fun y hy => a4 y (List.mem_of_mem_take hy), fun hh => absurd hh (by simp; have := hs.1; omega)⟩ c7
      by_cases k3 : x7 = 3
      · simp [hj, e2, e3, e4, e6, e7, k3, hs.1, vO_set0]
        exact ⟨by omega, .mk ⟨hc1.modify fun o => rfl, hv, b4, a4, fun _ => hfc.modify fun o => rfl⟩ c7⟩
      · simp [hj, e2, e3, e4, e6, e7, k0, k1, k2, k3]
        exact .mk hD c7)
  obtain ⟨h1, l, v, k, r, x, s, i', h', h2, h3⟩ := this
  exact ⟨l, v, k, r, x, s, i', h', ⟨h1, h2⟩, h3⟩

set_option maxRecDepth 100000 in
theorem L_s_DrawSwingStep {cd : List (List D)} (h : cd.length ≤ 1048576) : ∃ (l : List OpS) (v : List (List Int)) (k : Int) (r : List (List Int)) (x : Int) (s : Bool) (rate mom : Int), (Pr s_DrawSwingStep [.sl cd] ∧ G s_DrawSwingStep [.sl cd] = [vO l, vR v, .int k, vR r, .int x, .bool s, .int rate, .int mom]) ∧ DrawP l v r ∧ rate ∈ [655, 65536, 0, 2147483648, -65536] ∧ mom ∈ [0, 32768, 65536, -2147483648, 58982] := by
  obtain ⟨x1, e1⟩ := L_s_l1New h
  obtain ⟨l, v, k, r, x, s, i2, h2, e2, b2, c2⟩ := L_s_l24Swing (cd := cd) (i := 0) (h := x1) ⟨by omega, by omega, h⟩
  obtain ⟨x3, i3, h3, e3, b3, c3⟩ := L_s_l1PickInt (h := h2) (l := [655, 65536, 0, 2147483648, -65536]) c2 (by decide)
  obtain ⟨x4, i4, h4, e4, b4, c4⟩ := L_s_l1PickInt (h := h3) (l := [0, 32768, 65536, -2147483648, 58982]) c3 (by decide)
  have v3 : D.sl (chunks 1 5 [.int 655, .int 65536, .int 0, .int 2147483648, .int (-65536)]) = vI [655, 65536, 0, 2147483648, -65536] := rfl
  have v4 : D.sl (chunks 1 5 [.int 0, .int 32768, .int 65536, .int (-2147483648), .int 58982]) = vI [0, 32768, 65536, -2147483648, 58982] := rfl
  exact ⟨l, v, k, r, x, s, x3, x4, g_s_DrawSwingStep (Q := fun q => q = _) (by
    unfold t_s_DrawSwingStep
    simp [e1, e2, v3, v4, e3, e4]), b2, b3, b4⟩

set_option maxRecDepth 100000 in
theorem L_w_FnSwings {cd : List (List D)} : Pr w_FnSwings [.sl cd] ∧ G w_FnSwings [.sl cd] = [.bool true] :=
  g_w_FnSwings (Q := fun q => q = _) (by
    unfold t_w_FnSwings
    by_cases hb : 1048576 < (cd.length : Int)
    · simp [hb]
    · obtain ⟨l, v, k, r, x, s, rate, mom, e1, ⟨hmo, hv, hr, hra, hrf⟩, hrate, hmom⟩ := L_s_DrawSwingStep (cd := cd) (by omega)
      have e2 := L_i_SwingStep (k := k) (r := r) (x := x) (s := s) (rate := rate) (mom := mom) hmo hv
      have e3 := L_s_SwingStep (k := k) (r := r) (x := x) (s := s) (rate := rate) (mom := mom) hmo hv
      obtain ⟨b4, e4, p4⟩ := L_i_SwingOk (k := k) hmo hv
      obtain ⟨b5, e5, p5⟩ := L_s_SwingOk (k := k) hmo hv
      have hb45 : b4 = b5 := by rw [Bool.eq_iff_iff, p4, p5]
      subst hb45
      have hrx : -65536 ≤ rate ∧ rate ≤ 2147483648 := by simp at hrate; omega
      have hmx : -2147483648 ≤ mom ∧ mom ≤ 65536 := by simp at hmom; omega
      by_cases hB : SwP l v k ∧ r.length = l.length ∧ k < 1000000 ∧ rate ≤ 2147483647
      · obtain ⟨hsw, hrl, hk, hra2⟩ := hB
        have hb4 := p4.mpr hsw
        subst hb4
        have hfit := hrf hrl
        have hro : fixOk rate = true := fixOk_of (by omega)
        have hk' : ¬ 1000000 ≤ k := by omega
        have hr' : ¬ 2147483647 < rate := by omega
        have hk0 := hsw.2.1
        have wk : IntKind.wrap .i64 (k + 1) = k + 1 := w64 (by omega) (by omega)
        obtain ⟨v0, e6, g6, z6⟩ := L_i_SwingNew hmo
        have z6 := z6 hsw.1
        subst z6
        have e7 := L_i_SwingStep (k := 0) (r := r) (x := x) (s := s) (rate := rate) (mom := mom) hmo g6
        have e8 := L_i_Learn (r := r) (x := .int x) (y := .bool s) (rate := rate) hmo
        have hlp : LearnP rate l r := ⟨hsw.1, hro, hfit⟩
        rw [learnD_ok hlp] at e8
        have hs0 : StepP l v k r rate 0 := ⟨hsw, hro, by decide, hk, hfit⟩
        have e9 := L_i_SwingStep (k := k) (r := r) (x := x) (s := s) (rate := rate) (mom := 0) hmo hv
        rw [stepD_ok hs0, velR_right hsw.2.2.1 hfit hra (.inl rfl)] at e9
        have hlm := (learnM_ok hlp).mo
        have e10 := L_s_SameModel_refl hlm
        have e11 := L_s_SameRows hr
        by_cases hm : mom < -2147483647
        · obtain ⟨c, w, k', t, hq, hc, hw, hs, hn⟩ := stepD_one (k := k) (r := r) (rate := rate) (mom := mom) hmo hv
          rw [hq] at e2 e3
          obtain ⟨c', w', k'', t', hq', hc', hw', hs', hn'⟩ := stepD_one (k := 0) (r := r) (rate := rate) (mom := mom) hmo g6
          rw [hq'] at e7
          simp [hb, e1, e2, e3, e4, e5, e6, e7, e8, e9, e10, e11, L_s_SameModel_refl hc, L_s_SameRows hw, hrl, hk', hr', hm]
        · have hmo' : fixOk mom = true := fixOk_of (by omega)
          have hst : StepP l v k r rate mom := ⟨hsw, hro, hmo', hk, hfit⟩
          have hst0 : StepP l (zerosOf l) 0 r rate mom := ⟨⟨hsw.1, by omega, zerosOf_fit, zerosOf_ok⟩, hro, hmo', by omega, hfit⟩
          have hsn := SwP.step hst
          have hc : Mo (learnM rate l (velR mom v r)) := hsn.1.mo
          have hw : Gk (velR mom v r) := hsn.2.2.1.Gk hc
          rw [stepD_ok hst] at e2 e3
          rw [stepD_ok hst0, velR_right zerosOf_fit hfit hra (.inr rfl)] at e7
          obtain ⟨b12, e12, p12⟩ := L_i_SwingOk (k := k + 1) hc hw
          have hb12 := p12.mpr hsn
          subst hb12
          simp [hb, e1, e2, e3, e4, e5, e6, e7, e8, e9, e10, e11, e12, L_s_SameModel_refl hc, L_s_SameRows hw, hrl, hk', hr', hm, wk]
      · obtain ⟨c, w, k', t, hq, hc, hw, hs, hn⟩ := stepD_one (k := k) (r := r) (rate := rate) (mom := mom) hmo hv
        rw [hq] at e2 e3
        simp [hb, e1, e2, e3, e4, e5, L_s_SameModel_refl hc, L_s_SameRows hw]
        refine ⟨by cases b4 <;> simp; omega, by cases b4 <;> simp; omega, ?_⟩
        intro h1 h2 h3 h4
        exact absurd ⟨p4.mp h1, by omega, h3, h4⟩ hB)

end Go.Sx
