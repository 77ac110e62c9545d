/-
  What the program's functions compute, as plain data: each from its tree.
-/
import Derived.Test.YtnglgoloeabbeaaXsP
namespace Go.Sx
open Go
set_option linter.unusedSimpArgs false
set_option linter.unusedVariables false


/-! ### Swings -/

def SwP (l : List OpS) (v : List (List Int)) (k : Int) : Prop := ModelP l ∧ 0 ≤ k ∧ FitP l v ∧ ∀ g ∈ v, g.all fixOk = true

theorem L_i_SwingOk {l : List OpS} {v : List (List Int)} {k : Int} (hmo : Mo l) (hv : Gk v) : ∃ b : Bool, (Pr i_SwingOk [vO l, vR v, .int k] ∧ G i_SwingOk [vO l, vR v, .int k] = [.bool b]) ∧ (b = true ↔ SwP l v k) := by
  have := g_i_SwingOk (ds := [vO l, vR v, .int k]) (Q := BP (SwP l v k)) (by
    obtain ⟨b2, e2, p2⟩ := L_i_ModelOk hmo.1 hmo.2
    obtain ⟨b3, e3, p3⟩ := L_i_gradsFit (r := v) hmo.1
    unfold t_i_SwingOk
    by_cases h : b2 = true ∧ 0 ≤ k ∧ b3 = true
    · obtain ⟨rfl, hk, rfl⟩ := h
      have hv1 := hv.1
      unfold Sm at hv1
      have hk' : ¬ k < 0 := by omega
      simp [e2, e3, hk']
      refine wp_loop (fun m vs => ∃ j : Nat, vs = [.int j] ∧ j ≤ v.length ∧ (∀ g ∈ v.take j, g.all fixOk = true) ∧ m = v.length - j) rfl v.length ⟨0, rfl, by omega, by simp, by omega⟩ ?_
      rintro m _ ⟨j, rfl, hj, ha, rfl⟩
      by_cases hlt : j < v.length
      · obtain ⟨g, hg⟩ := at_some hlt
        have e4 := L_i_allFix (hv.2.at hg)
        simp [-getElem?_pos, -List.all_eq_true, -List.all_eq_false, hlt, cel_vR hg, e4]
        split
        · rename_i hf
          exact ⟨_, by omega, j + 1, wS (by omega), by omega, forall_step ha hg hf, rfl⟩
        · rename_i hf
          refine BP.ff (p := SwP l v k) fun hp => ?_
          exact hf (hp.2.2.2 g (List.mem_of_getElem? hg))
      · have : j = v.length := by omega
        subst this
        rw [List.take_length] at ha
        simp
        exact BP.tt ⟨p2.mp rfl, hk, p3.mp rfl, ha⟩
    · simp [e2, e3]
      refine ⟨by cases b2 <;> simp; omega, ?_⟩
      have hno : ¬ SwP l v k := fun hp => h ⟨p2.mpr hp.1, hp.2.1, p3.mpr hp.2.2.1⟩
      split
      · exact BP.ff hno
      · rename_i hc
        simp only [Classical.not_imp, Bool.not_eq_false, Int.not_lt] at hc
        exact absurd ⟨hc.1, by omega, hc.2.2⟩ h)
  obtain ⟨h1, x, h2, h3⟩ := this
  exact ⟨x, ⟨h1, h2⟩, h3⟩

theorem all_take_miss {l : List Int} {j : Nat} {x : Int} (hx : l[j]? = some x) (hf : fixOk x = false) : l.all fixOk = false := all_miss hx hf

def ISo (l : List OpS) (v : List (List Int)) (k : Nat) (vs : List D) : Prop := ∃ j : Nat, vs = [.int j] ∧ (∀ g ∈ v.take j, g.all fixOk = true) ∧ Fitz l v j ∧ j ≤ l.length ∧ k = l.length - j
theorem L_s_SwingOk {l : List OpS} {v : List (List Int)} {k : Int} (hmo : Mo l) (hv : Gk v) : ∃ b : Bool, (Pr s_SwingOk [vO l, vR v, .int k] ∧ G s_SwingOk [vO l, vR v, .int k] = [.bool b]) ∧ (b = true ↔ SwP l v k) := by
  have := g_s_SwingOk (ds := [vO l, vR v, .int k]) (Q := BP (SwP l v k)) (by
    obtain ⟨b2, e2, p2⟩ := L_s_ModelOk hmo.1 hmo.2
    have hl := hmo.1
    unfold Sm at hl
    unfold t_s_SwingOk
    by_cases h : b2 = true ∧ v.length = l.length ∧ 0 ≤ k
    · obtain ⟨rfl, hn, hk⟩ := h
      have hk' : ¬ k < 0 := by omega
      simp [e2, hn, hk']
      refine wp_loop (ISo l v) rfl l.length ⟨0, rfl, by simp, .zero, by omega, by omega⟩ ?_
      rintro m _ ⟨j, rfl, ha, hfi, hj, rfl⟩
      by_cases hlt : j < l.length
      · obtain ⟨u, hu⟩ := at_some hlt
        obtain ⟨g, hg⟩ := at_some (l := v) (n := j) (by omega)
        have hgl2 := hv.2.at hg
        by_cases hgl : g.length = u.p.length
        · simp [-getElem?_pos, hlt, hn, cel_vR hg, cel_vO3 hu, hgl]
          refine wp_loop (fun m vs => ∃ i : Nat, vs = [.int j, .int i] ∧ i ≤ g.length ∧ (g.take i).all fixOk = true ∧ m = g.length - i) rfl g.length ⟨0, rfl, by omega, by simp, by omega⟩ ?_
          rintro m _ ⟨i, rfl, hi, hai, rfl⟩
          by_cases hlt2 : i < g.length
          · obtain ⟨a, ha'⟩ := at_some hlt2
            simp [-getElem?_pos, hlt, hlt2, hn, cel_vR hg, ha']
            split
            · rename_i hf
              refine ⟨g.length - (i + 1), by omega, i + 1, wS (by omega), by omega, ?_, rfl⟩
              have := all_step (p := fixOk) ha'
              rw [hai] at this
              simpa [hf] using this
            · rename_i hf
              refine BP.ff (p := SwP l v k) fun hp => ?_
              have h1 := hp.2.2.2 g (List.mem_of_getElem? hg)
              rw [all_miss ha' (by simpa using hf)] at h1
              cases h1
          · have : i = g.length := by omega
            subst this
            rw [List.take_length] at hai
            simp [hlt, hn, cel_vR hg]
            exact ⟨l.length - (j + 1), by omega, j + 1, by rw [wS (by omega)], forall_step ha hg hai, hfi.step hu hg hgl, by omega, rfl⟩
        · have hgl' : ¬ (g.length : Int) = u.p.length := by omega
          simp [-getElem?_pos, hlt, hn, cel_vR hg, cel_vO3 hu]
          rw [if_neg hgl']
          refine BP.ff (p := SwP l v k) fun hp => ?_
          exact hgl (hp.2.2.1.2 j u g hu hg)
      · have : j = l.length := by omega
        subst this
        rw [← hn, List.take_length] at ha
        simp
        exact BP.tt ⟨p2.mp rfl, hk, hfi.done hn, ha⟩
    · simp [e2]
      have hno : ¬ SwP l v k := fun hp => h ⟨p2.mpr hp.1, hp.2.2.1.1, hp.2.1⟩
      refine ⟨by cases b2 <;> simp; omega, ?_⟩
      split
      · exact BP.ff hno
      · rename_i hc
        simp only [Classical.not_imp, Decidable.not_not, Int.not_lt] at hc
        exact absurd ⟨hc.1, by omega, by omega⟩ h)
  obtain ⟨h1, x, h2, h3⟩ := this
  exact ⟨x, ⟨h1, h2⟩, h3⟩

def swN (mom a b : Int) : Int := (fixAdd (fixMul mom a).1 b).1
def swS (mom a b : Int) : Bool := (fixMul mom a).2 || (fixAdd (fixMul mom a).1 b).2
def velV (mom : Int) (a g : List Int) : List Int := List.zipWith (swN mom) a g
def velT (mom : Int) (a g : List Int) : Bool := anyT (List.zipWith (swS mom) a g)
def velR (mom : Int) (v r : List (List Int)) : List (List Int) := List.zipWith (velV mom) v r
def velS (mom : Int) (v r : List (List Int)) : Bool := anyT (List.zipWith (velT mom) v r)
def StepP (l : List OpS) (v : List (List Int)) (k : Int) (r : List (List Int)) (rate mom : Int) : Prop := SwP l v k ∧ fixOk rate = true ∧ fixOk mom = true ∧ k < 1000000 ∧ FitP l r
noncomputable def stepD (l : List OpS) (v : List (List Int)) (k : Int) (r : List (List Int)) (rate mom : Int) : List D :=
  @ite _ (StepP l v k r rate mom) (Classical.propDecidable _) [vO (learnM rate l (velR mom v r)), vR (velR mom v r), .int (k + 1), .bool (velS mom v r || learnS rate l (velR mom v r))] [vO l, vR v, .int k, .bool false]
theorem stepD_ok {l : List OpS} {v : List (List Int)} {k : Int} {r : List (List Int)} {rate mom : Int} (h : StepP l v k r rate mom) : stepD l v k r rate mom = [vO (learnM rate l (velR mom v r)), vR (velR mom v r), .int (k + 1), .bool (velS mom v r || learnS rate l (velR mom v r))] := by unfold stepD; rw [if_pos h]
theorem stepD_no {l : List OpS} {v : List (List Int)} {k : Int} {r : List (List Int)} {rate mom : Int} (h : ¬ StepP l v k r rate mom) : stepD l v k r rate mom = [vO l, vR v, .int k, .bool false] := by unfold stepD; rw [if_neg h]

theorem velR_fit {l : List OpS} {v r : List (List Int)} {mom : Int} (hv : FitP l v) (hr : FitP l r) : FitP l (velR mom v r) := by
  refine ⟨by unfold velR; simp [hv.1, hr.1], fun j x y hx hy => ?_⟩
  obtain ⟨a, ha⟩ := at_some (l := v) (n := j) (by have := hv.1; have := lt_of_at hx; omega)
  obtain ⟨g, hg⟩ := at_some (l := r) (n := j) (by have := hr.1; have := lt_of_at hx; omega)
  have h1 := hv.2 j x a hx ha
  have h2 := hr.2 j x g hx hg
  unfold velR at hy
  rw [zip_at ha hg] at hy
  cases hy
  unfold velV
  simp
  omega

def ISs (l : List OpS) (v r : List (List Int)) (mom : Int) (k : Nat) (vs : List D) : Prop := ∃ j : Nat, vs = [.int j, .bool (anyT ((List.zipWith (velT mom) v r).take j)), vR ((velR mom v r).take j)] ∧ Fitz l r j ∧ j ≤ l.length ∧ k = l.length - j
def ISt (v r : List (List Int)) (mom : Int) (j : Nat) (a g : List Int) (k : Nat) (vs : List D) : Prop :=
  ∃ i : Nat, vs = [.int j, .int i, .bool (anyT ((List.zipWith (velT mom) v r).take j) || anyT ((List.zipWith (swS mom) a g).take i)), vR ((velR mom v r).take j), vI ((velV mom a g).take i)] ∧ i ≤ a.length ∧ k = a.length - i

theorem L_s_SwingStep {l : List OpS} {v r : List (List Int)} {k x rate mom : Int} {s : Bool} (hmo : Mo l) (hv : Gk v) : Pr s_SwingStep [vO l, vR v, .int k, vR r, .int x, .bool s, .int rate, .int mom] ∧ G s_SwingStep [vO l, vR v, .int k, vR r, .int x, .bool s, .int rate, .int mom] = stepD l v k r rate mom :=
  g_s_SwingStep (Q := fun q => q = _) (by
    have e1 := L_s_l11Rows hv
    have e2 := L_s_Learn (r := []) (x := .int 0) (y := .bool false) (rate := 0) hmo
    have hno0 : ¬ LearnP 0 l [] := fun hp => by have h1 := hp.1.1; have h2 := hp.2.2.1; simp at h2; omega
    rw [learnD_no hno0] at e2
    obtain ⟨b3, e3, p3⟩ := L_s_SwingOk (k := k) hmo hv
    have hl := hmo.1
    unfold Sm at hl
    unfold t_s_SwingStep
    by_cases h : b3 = true ∧ fixOk rate = true ∧ fixOk mom = true ∧ k < 1000000 ∧ r.length = l.length
    · obtain ⟨rfl, hr, hm, hk, hn⟩ := h
      have hsw := p3.mp rfl
      have hvn := hsw.2.2.1
      have hk' : ¬ 1000000 ≤ k := by omega
      simp [e1, vR_nil, e2, e3, hr, hm, hk', hn]
      refine wp_loop (ISs l v r mom) rfl l.length ⟨0, by simp [anyT, vR], .zero, by omega, rfl⟩ ?_
      rintro m _ ⟨j, rfl, hfi, hj, rfl⟩
      by_cases hlt : j < l.length
      · obtain ⟨u, hu⟩ := at_some hlt
        obtain ⟨g, hg⟩ := at_some (l := r) (n := j) (by omega)
        obtain ⟨a, ha⟩ := at_some (l := v) (n := j) (by have := hvn.1; omega)
        have hal := hvn.2 j u a hu ha
        have hul := hmo.at hu
        by_cases hgl : g.length = u.p.length
        · simp [-getElem?_pos, hlt, hn, cel_vR hg, cel_vO3 hu, hgl]
          refine wp_loop (ISt v r mom j a g) rfl a.length ⟨0, by simp [anyT, vI], by omega, rfl⟩ ?_
          rintro m _ ⟨i, rfl, hi, rfl⟩
          by_cases hlt2 : i < u.p.length
          · obtain ⟨c, hc⟩ := at_some (l := a) (n := i) (by omega)
            obtain ⟨d, hd⟩ := at_some (l := g) (n := i) (by omega)
            have hvl : j < v.length := lt_of_at ha
            simp [-getElem?_pos, hlt, hlt2, hn, hvl, hal, hgl, cel_vR hg, cel_vR ha, cel_vO3 hu, hc, hd, L_s_FixMul_x, mk1, vI_push]
            refine ⟨by omega, or2 _ _, or3 _ _ _, a.length - (i + 1), by omega, i + 1, ?_, by omega, rfl⟩
            have hz := take_step (zip_at (f := swN mom) hc hd)
            have hz2 := take_step (zip_at (f := swS mom) hc hd)
            unfold velV
            rw [wS (by omega), hz, hz2, anyT_push]
            simp [swN, swS, Bool.or_assoc]
          · have : i = a.length := by omega
            subst this
            have ez : (List.zipWith (swS mom) a g).take a.length = List.zipWith (swS mom) a g := List.take_of_length_le (by simp; omega)
            have ey : (velV mom a g).take a.length = velV mom a g := List.take_of_length_le (by unfold velV; simp; omega)
            have hlt3 : ¬ (a.length : Int) < u.p.length := by omega
            simp [-getElem?_pos, hlt, hlt3, cel_vO3 hu, ez, ey, mk1, vR_push]
            refine ⟨by omega, l.length - (j + 1), by omega, j + 1, ?_, hfi.step hu hg hgl, by omega, rfl⟩
            have hz := take_step (zip_at (f := velV mom) ha hg)
            unfold velR
            rw [wS (by omega), hz, take_step (zip_at ha hg), anyT_push]
            rfl
        · have hgl' : ¬ (g.length : Int) = u.p.length := by omega
          simp [-getElem?_pos, hlt, hn, cel_vR hg, cel_vO3 hu, e1, vR_nil, e2]
          rw [if_neg hgl', stepD_no fun hp => hgl (hp.2.2.2.2.2 j u g hu hg)]
      · have : j = l.length := by omega
        subst this
        have hfr := hfi.done hn
        have hfv := velR_fit (mom := mom) hvn hfr
        have e4 := L_s_Learn (r := velR mom v r) (x := .int 0) (y := .bool false) (rate := rate) hmo
        rw [learnD_ok ⟨hsw.1, hr, hfv⟩] at e4
        have ez : (List.zipWith (velT mom) v r).take l.length = List.zipWith (velT mom) v r := List.take_of_length_le (by simp; omega)
        have ey : (velR mom v r).take l.length = velR mom v r := List.take_of_length_le (by rw [hfv.1]; omega)
        rw [ez, ey, stepD_ok ⟨hsw, hr, hm, hk, hfr⟩]
        have hk0 := hsw.2.1
        have w : IntKind.wrap .i64 (k + 1) = k + 1 := w64 (by omega) (by omega)
        simp [e4, w]
        rfl
    · have hno : ¬ StepP l v k r rate mom := fun hp => h ⟨p3.mpr hp.1, hp.2.1, hp.2.2.1, hp.2.2.2.1, hp.2.2.2.2.1⟩
      rw [stepD_no hno]
      simp [e1, vR_nil, e2, e3]
      refine ⟨by cases b3 <;> cases fixOk rate <;> simp, by cases b3 <;> cases fixOk rate <;> cases fixOk mom <;> simp, by cases b3 <;> cases fixOk rate <;> cases fixOk mom <;> simp; omega, ?_⟩
      intro h2 h3 h4 h5 h6
      exact absurd ⟨h2, h3, h4, h5, by omega⟩ h)

/-! ### The same, in place -/

def PartF (f : Int → Int → Int) (p g : List Int) (j : Nat) (q : List Int) : Prop := q.length = p.length ∧ ∀ (i : Nat) (a b c : Int), p[i]? = some a → g[i]? = some b → q[i]? = some c → c = if i < j then f a b else a
theorem PartF.done {f : Int → Int → Int} {p g q : List Int} (h : PartF f p g p.length q) (hn : g.length = p.length) : q = List.zipWith f p g := by
  apply List.ext_getElem?
  intro i
  by_cases hi : i < p.length
  · obtain ⟨a, ha⟩ := at_some hi
    obtain ⟨b, hb⟩ := at_some (l := g) (n := i) (by omega)
    obtain ⟨c, hc⟩ := at_some (l := q) (n := i) (by have := h.1; omega)
    have := h.2 i a b c ha hb hc
    rw [if_pos hi] at this
    rw [hc, zip_at ha hb, this]
  · rw [List.getElem?_eq_none (by have := h.1; omega), List.getElem?_eq_none (by simp; omega)]
theorem PartF.start {f : Int → Int → Int} {p g : List Int} : PartF f p g 0 p :=
  ⟨rfl, fun i a b c ha hb hc => by rw [if_neg (by omega)]; rw [ha] at hc; exact (Option.some.inj hc).symm⟩
theorem PartF.step {f : Int → Int → Int} {p g q : List Int} {j : Nat} (h : PartF f p g j q) {a b : Int} (ha : p[j]? = some a) (hb : g[j]? = some b) : PartF f p g (j + 1) (q.set j (f a b)) := by
  refine ⟨by simp [h.1], fun i a' b' c ha' hb' hc => ?_⟩
  rw [List.getElem?_set] at hc
  by_cases hi : j = i
  · subst hi
    rw [if_pos rfl] at hc
    rw [if_pos (by omega)]
    rw [ha] at ha'
    rw [hb] at hb'
    cases ha'
    cases hb'
    rw [if_pos (by have := h.1; have := lt_of_at ha; omega)] at hc
    exact (Option.some.inj hc).symm
  · rw [if_neg hi] at hc
    have := h.2 i a' b' c ha' hb' hc
    rw [this]
    by_cases h1 : i < j
    · rw [if_pos h1, if_pos (by omega)]
    · rw [if_neg h1, if_neg (by omega)]

def PartR (v r : List (List Int)) (mom : Int) (j : Nat) (c : List (List Int)) : Prop := c.length = v.length ∧ ∀ (i : Nat) (a g y : List Int), v[i]? = some a → r[i]? = some g → c[i]? = some y → y = if i < j then velV mom a g else a
def MidR (v r : List (List Int)) (mom : Int) (j i : Nat) (a g : List Int) (c : List (List Int)) : Prop :=
  c.length = v.length ∧ (∀ (k : Nat) (a g y : List Int), k ≠ j → v[k]? = some a → r[k]? = some g → c[k]? = some y → y = if k < j then velV mom a g else a) ∧ ∃ q, c[j]? = some q ∧ PartF (swN mom) a g i q
theorem PartR.start {v r : List (List Int)} {mom : Int} : PartR v r mom 0 v :=
  ⟨rfl, fun i a g y ha hg hy => by rw [if_neg (by omega)]; rw [ha] at hy; exact (Option.some.inj hy).symm⟩
theorem PartR.done {v r c : List (List Int)} {mom : Int} (h : PartR v r mom v.length c) (hn : r.length = v.length) : c = velR mom v r := by
  apply List.ext_getElem?
  intro i
  by_cases hi : i < v.length
  · obtain ⟨a, ha⟩ := at_some hi
    obtain ⟨b, hb⟩ := at_some (l := r) (n := i) (by omega)
    obtain ⟨y, hy⟩ := at_some (l := c) (n := i) (by have := h.1; omega)
    have := h.2 i a b y ha hb hy
    rw [if_pos hi] at this
    unfold velR
    rw [hy, zip_at ha hb, this]
  · rw [List.getElem?_eq_none (by have := h.1; omega), List.getElem?_eq_none (by unfold velR; simp; omega)]
theorem PartR.mid {v r c : List (List Int)} {mom : Int} {j : Nat} {a g : List Int} (h : PartR v r mom j c) (ha : v[j]? = some a) (hg : r[j]? = some g) : MidR v r mom j 0 a g c := by
  obtain ⟨y, hy⟩ := at_some (l := c) (n := j) (by have := h.1; have := lt_of_at ha; omega)
  have := h.2 j a g y ha hg hy
  rw [if_neg (by omega)] at this
  subst this
  exact ⟨h.1, fun k u v y hk hu hv hy => h.2 k u v y hu hv hy, y, hy, .start⟩
theorem MidR.step {v r c : List (List Int)} {mom : Int} {j i : Nat} {a g : List Int} (h : MidR v r mom j i a g c) {x y : Int} (hx : a[i]? = some x) (hy : g[i]? = some y) : MidR v r mom j (i + 1) a g (c.modify j fun q => q.set i (swN mom x y)) := by
  obtain ⟨h1, h2, q, h3, h4⟩ := h
  refine ⟨by simp [h1], ?_, q.set i (swN mom x y), ?_, h4.step hx hy⟩
  · intro k u w z hk hu hv hz
    obtain ⟨z', hz'⟩ := at_some (l := c) (n := k) (by have := lt_of_at hu; omega)
    have hjk : ¬ j = k := fun e => hk e.symm
    rw [List.getElem?_modify, hz'] at hz
    simp [hjk] at hz
    subst hz
    exact h2 k u w z' hk hu hv hz'
  · rw [List.getElem?_modify, h3]
    simp
theorem MidR.done {v r c : List (List Int)} {mom : Int} {j : Nat} {a g : List Int} (h : MidR v r mom j a.length a g c) (ha : v[j]? = some a) (hg : r[j]? = some g) (hn : g.length = a.length) : PartR v r mom (j + 1) c := by
  obtain ⟨h1, h2, q, h3, h4⟩ := h
  refine ⟨h1, fun i u w y hu hv hy => ?_⟩
  by_cases hi : i = j
  · subst hi
    rw [if_pos (by omega)]
    rw [ha] at hu
    rw [hg] at hv
    rw [h3] at hy
    cases hu
    cases hv
    cases hy
    exact h4.done hn
  · rw [h2 i u w y hi hu hv hy]
    by_cases h5 : i < j
    · rw [if_pos h5, if_pos (by omega)]
    · rw [if_neg h5, if_neg (by omega)]

theorem vR_setd {l : List (List Int)} {n m : Nat} {v : Int} : D.sl ((vR l).l.modify n fun x => x.modify 0 fun y => .sl (y.l.modify m fun z => z.set 0 (.int v))) = vR (l.modify n fun q => q.set m v) := by
  unfold vR
  simp only [D.l_sl]
  rw [modify_map (h := fun q => q.set m v)]
  intro a
  simp only [List.modify_zero_cons]
  unfold vI
  simp only [D.l_sl]
  rw [modify_map (h := fun _ => v) (by intro a; rfl), modify_const]

def ISp (v r : List (List Int)) (mom : Int) (k : Nat) (vs : List D) : Prop := ∃ (j : Nat) (c : List (List Int)), vs = [.int j, .bool (anyT ((List.zipWith (velT mom) v r).take j)), vR c] ∧ PartR v r mom j c ∧ j ≤ v.length ∧ k = v.length - j
def ISq2 (v r : List (List Int)) (mom : Int) (j : Nat) (a g : List Int) (k : Nat) (vs : List D) : Prop :=
  ∃ (i : Nat) (c : List (List Int)), vs = [.int j, .int j, .int j, .int a.length, .int i, .bool (anyT ((List.zipWith (velT mom) v r).take j) || anyT ((List.zipWith (swS mom) a g).take i)), vR c] ∧ MidR v r mom j i a g c ∧ i ≤ a.length ∧ k = a.length - i

theorem L_i_SwingStep {l : List OpS} {v r : List (List Int)} {k x rate mom : Int} {s : Bool} (hmo : Mo l) (hv : Gk v) : Pr i_SwingStep [vO l, vR v, .int k, vR r, .int x, .bool s, .int rate, .int mom] ∧ G i_SwingStep [vO l, vR v, .int k, vR r, .int x, .bool s, .int rate, .int mom] = stepD l v k r rate mom :=
  g_i_SwingStep (Q := fun q => q = _) (by
    have e1 := L_i_copyRows hv
    have e2 := L_i_copyModel hmo
    obtain ⟨b3, e3, p3⟩ := L_i_SwingOk (k := k) hmo hv
    obtain ⟨b4, e4, p4⟩ := L_i_gradsFit (r := r) hmo.1
    have hl := hmo.1
    unfold Sm at hl
    unfold t_i_SwingStep
    by_cases h : b3 = true ∧ fixOk rate = true ∧ fixOk mom = true ∧ k < 1000000 ∧ b4 = true
    · obtain ⟨rfl, hr, hm, hk, rfl⟩ := h
      have hsw := p3.mp rfl
      have hfr := p4.mp rfl
      have hvn := hsw.2.2.1
      have hrv : r.length = v.length := by rw [hfr.1, hvn.1]
      have hk' : ¬ 1000000 ≤ k := by omega
      have hvl := hvn.1
      simp [e1, e3, e4, hr, hm, hk']
      refine wp_loop (ISp v r mom) rfl v.length ⟨0, v, by simp [e1, anyT], .start, by omega, rfl⟩ ?_
      rintro m _ ⟨j, c, rfl, hc, hj, rfl⟩
      by_cases hlt : j < v.length
      · obtain ⟨u, hu⟩ := at_some (l := l) (n := j) (by omega)
        obtain ⟨g, hg⟩ := at_some (l := r) (n := j) (by omega)
        obtain ⟨a, ha⟩ := at_some hlt
        have hal := hvn.2 j u a hu ha
        have hgl : g.length = a.length := by rw [hal]; exact hfr.2 j u g hu hg
        have hul := hmo.at hu
        have hmid := hc.mid ha hg
        have hmid' := hmid
        obtain ⟨hc1, hc2, q, hc3, hc4⟩ := hmid'
        simp [-getElem?_pos, e1, hlt, hc.1]
        refine wp_loop (ISq2 v r mom j a g) rfl a.length ⟨0, c, by simp [cel_vR hc3, hc4.1, anyT], hmid, by omega, rfl⟩ ?_
        rintro m _ ⟨i, c, rfl, hmid, hi, rfl⟩
        have hmid' := hmid
        obtain ⟨hc1, hc2, q, hc3, hc4⟩ := hmid'
        by_cases hlt2 : i < a.length
        · obtain ⟨d, hd⟩ := at_some hlt2
          obtain ⟨b, hb⟩ := at_some (l := g) (n := i) (by omega)
          obtain ⟨z, hz⟩ := at_some (l := q) (n := i) (by have := hc4.1; omega)
          have hda := hc4.2 i d b z hd hb hz
          rw [if_neg (by omega)] at hda
          subst hda
          have hlr : j < r.length := lt_of_at hg
          simp [-getElem?_pos, hlt2, hlr, cel_vR hg, cel_vR hc3, hb, hz, hgl, hc4.1, vR_setd]
          refine ⟨or2 _ _, or3 _ _ _, a.length - (i + 1), by omega, i + 1, _, ?_, hmid.step hd hb, by omega, rfl⟩
          rw [wS (by omega), take_step (zip_at hd hb), anyT_push]
          simp [swN, swS, Bool.or_assoc]
        · have : i = a.length := by omega
          subst this
          simp
          have ez : (List.zipWith (swS mom) a g).take a.length = List.zipWith (swS mom) a g := List.take_of_length_le (by simp; omega)
          refine ⟨v.length - (j + 1), by omega, j + 1, c, ?_, hmid.done ha hg hgl, by omega, rfl⟩
          rw [wS (by omega), take_step (zip_at ha hg), anyT_push, ez]
          rfl
      · have : j = v.length := by omega
        subst this
        have hfv := velR_fit (mom := mom) hvn hfr
        have hcd := hc.done hrv
        subst hcd
        have e5 := L_i_Learn (r := velR mom v r) (x := .int 0) (y := .bool false) (rate := rate) hmo
        rw [learnD_ok ⟨hsw.1, hr, hfv⟩] at e5
        have ez : (List.zipWith (velT mom) v r).take v.length = List.zipWith (velT mom) v r := List.take_of_length_le (by simp; omega)
        rw [ez, stepD_ok ⟨hsw, hr, hm, hk, hfr⟩]
        have hk0 := hsw.2.1
        have w : IntKind.wrap .i64 (k + 1) = k + 1 := w64 (by omega) (by omega)
        simp [e1, e5, w]
        rfl
    · have hno : ¬ StepP l v k r rate mom := fun hp => h ⟨p3.mpr hp.1, hp.2.1, hp.2.2.1, hp.2.2.2.1, p4.mpr hp.2.2.2.2⟩
      rw [stepD_no hno]
      simp [e1, e2, e3, e4]
      refine ⟨by cases b3 <;> cases fixOk rate <;> simp, by cases b3 <;> cases fixOk rate <;> cases fixOk mom <;> simp, by cases b3 <;> cases fixOk rate <;> cases fixOk mom <;> simp; omega, ?_⟩
      intro h2 h3 h4 h5 h6
      exact absurd ⟨h2, h3, h4, h5, h6⟩ h)

end Go.Sx
