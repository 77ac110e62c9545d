/-
  What the program's functions compute, as plain data: each from its tree.
-/
import Derived.Test.YtnglgoloeabbeaaSwC
namespace Go.Sx
open Go
set_option linter.unusedSimpArgs false
set_option linter.unusedVariables false


def Mo (l : List OpS) : Prop := Sm l ∧ ∀ o ∈ l, o.p.length ≤ 1048576
theorem ModelP.mo {l : List OpS} (h : ModelP l) : Mo l := by
  refine ⟨by have := h.1; unfold Sm; omega, fun o ho => ?_⟩
  have h1 := (opOk_iff.mp (h.2.1 o ho)).2.2.2.2.1
  have h2 := @opSize_le o.k o.i o.o
  omega

theorem ModelP.ends {l : List OpS} (h : ModelP l) : (1 ≤ inOf l ∧ inOf l ≤ 6) ∧ (1 ≤ outOf l ∧ outOf l ≤ 6) := by
  obtain ⟨h1, h2, _⟩ := h
  obtain ⟨x, hx⟩ := at_some (l := l) (n := 0) (by omega)
  obtain ⟨y, hy⟩ := at_some (l := l) (n := l.length - 1) (by omega)
  unfold inOf outOf
  rw [getD_at hx, getD_at hy]
  exact ⟨(opOk_iff.mp (h2 x (List.mem_of_getElem? hx))).2.1, (opOk_iff.mp (h2 y (List.mem_of_getElem? hy))).2.2.1⟩

theorem L_s_InOf {l : List OpS} (h : Mo l) : ∃ x : Int, (Pr s_InOf [vO l] ∧ G s_InOf [vO l] = [.int x]) ∧ (0 ≤ x ∧ x ≤ 6) ∧ (ModelP l → x = inOf l) := by
  obtain ⟨b, e, hb⟩ := L_s_ModelOk h.1 h.2
  have := g_s_InOf (ds := [vO l]) (Q := fun q => ∃ x : Int, q = [.int x] ∧ (0 ≤ x ∧ x ≤ 6) ∧ (ModelP l → x = inOf l)) (by
    unfold t_s_InOf
    cases b with
    | false =>
      have : ¬ ModelP l := fun hp => by have := hb.mpr hp; cases this
      simp [e, this]
    | true =>
      have hp := hb.mp rfl
      have he := hp.ends
      obtain ⟨x, hx⟩ := at_some (l := l) (n := 0) (by have := hp.1; omega)
      have c := cel_vO1 hx
      simp only [Int.natCast_zero] at c
      have hi : inOf l = x.i := by unfold inOf; rw [getD_at hx]
      have h0 := hp.1
      simp [e, c, ← hi]
      omega)
  obtain ⟨h1, x, h2, h3⟩ := this
  exact ⟨x, ⟨h1, h2⟩, h3⟩

theorem L_s_OutOf {l : List OpS} (h : Mo l) : ∃ x : Int, (Pr s_OutOf [vO l] ∧ G s_OutOf [vO l] = [.int x]) ∧ (0 ≤ x ∧ x ≤ 6) ∧ (ModelP l → x = outOf l) := by
  obtain ⟨b, e, hb⟩ := L_s_ModelOk h.1 h.2
  have := g_s_OutOf (ds := [vO l]) (Q := fun q => ∃ x : Int, q = [.int x] ∧ (0 ≤ x ∧ x ≤ 6) ∧ (ModelP l → x = outOf l)) (by
    unfold t_s_OutOf
    cases b with
    | false =>
      have : ¬ ModelP l := fun hp => by have := hb.mpr hp; cases this
      simp [e, this]
    | true =>
      have hp := hb.mp rfl
      have he := hp.ends
      have h0 := hp.1
      obtain ⟨x, hx⟩ := at_some (l := l) (n := l.length - 1) (by omega)
      have c := cel_vO2 hx
      have hi : outOf l = x.o := by unfold outOf; rw [getD_at hx]
      have w : IntKind.wrap .i64 ((l.length : Int) - 1) = ((l.length - 1 : Nat) : Int) := by rw [w64 (by omega) (by omega)]; omega
      simp [e, w, c, ← hi]
      omega)
  obtain ⟨h1, x, h2, h3⟩ := this
  exact ⟨x, ⟨h1, h2⟩, h3⟩

def vecOk (l : List Int) : Bool := decide (1 ≤ (l.length : Int) ∧ (l.length : Int) ≤ 6) && l.all fixOk
theorem vecOk_iff {l : List Int} : vecOk l = true ↔ (1 ≤ l.length ∧ l.length ≤ 6) ∧ l.all fixOk = true := by
  simp only [vecOk, Bool.and_eq_true, decide_eq_true_eq]
  exact ⟨fun ⟨⟨a, b⟩, c⟩ => ⟨⟨by omega, by omega⟩, c⟩, fun ⟨⟨a, b⟩, c⟩ => ⟨⟨by omega, by omega⟩, c⟩⟩

theorem L_s_VecOk {l : List Int} (hl : Sm l) : Pr s_VecOk [vI l] ∧ G s_VecOk [vI l] = [.bool (vecOk l)] :=
  g_s_VecOk (Q := fun q => q = _) (by
    unfold t_s_VecOk
    refine wp_loop (fun m vs => ∃ j : Nat, vs = [.int j] ∧ j ≤ l.length ∧ (l.take j).all fixOk = true ∧ m = l.length - j) rfl l.length ⟨0, rfl, by omega, by simp, by omega⟩ ?_
    rintro m _ ⟨j, rfl, hj, ha, rfl⟩
    unfold Sm at hl
    by_cases hlt : j < l.length
    · obtain ⟨x, hx⟩ := at_some hlt
      simp [-getElem?_pos, hlt, hx]
      split
      · rename_i hf
        rw [wS (by omega)]
        refine ⟨_, by omega, j + 1, rfl, by omega, ?_, rfl⟩
        have := all_step (p := fixOk) hx
        rw [ha] at this
        simpa [hf] using this
      · rename_i hf
        simp [vecOk, all_miss hx (by simpa using hf)]
    · have : j = l.length := by omega
      subst this
      rw [List.take_length] at ha
      simp [vecOk, ha])


/-- A batch that fits. -/
def BatchP (l : List OpS) (p : List (List Int × List Int)) : Prop := ModelP l ∧ (1 ≤ p.length ∧ p.length ≤ 5) ∧ ∀ q ∈ p, vecOk q.1 = true ∧ vecOk q.2 = true ∧ (q.1.length : Int) = inOf l ∧ (q.2.length : Int) = outOf l
/-- Pairs of a batch. -/
def Bq (l : List OpS) (p : List (List Int × List Int)) : Prop := ∀ q ∈ p, vecOk q.1 = true ∧ vecOk q.2 = true ∧ (q.1.length : Int) = inOf l ∧ (q.2.length : Int) = outOf l
theorem Bq.push {m : List OpS} {l : List (List Int × List Int)} (h : Bq m l) {x y : List Int} (hx : vecOk x = true ∧ (x.length : Int) = inOf m) (hy : vecOk y = true ∧ (y.length : Int) = outOf m) : Bq m (l ++ [(x, y)]) := by
  intro q hq
  rcases List.mem_append.mp hq with hq | hq
  · exact h q hq
  · cases List.mem_singleton.mp hq
    exact ⟨hx.1, hy.1, hx.2, hy.2⟩
theorem Bq.nil {m : List OpS} : Bq m [] := by intro q hq; cases hq
/-- One truth value. -/
def OneB (q : List D) : Prop := ∃ b : Bool, q = [.bool b]
theorem OneB.mk (b : Bool) : OneB [.bool b] := ⟨b, rfl⟩

theorem L_s_l6Batch {cd : List (List D)} {i h : Int} {l : List OpS} (hm : Mo l) (hmp : ModelP l) (hc : Cur cd i) : ∃ (p : List (List Int × List Int)) (i' h' : Int), (Pr s_l6Batch [.sl cd, .int i, .int h, vO l] ∧ G s_l6Batch [.sl cd, .int i, .int h, vO l] = [vP p, .sl cd, .int i', .int h']) ∧ BatchP l p ∧ Cur cd i' := by
  obtain ⟨x1, i1, h1, e1, b1, c1⟩ := L_s_l1Below (h := h) (m := 4) hc (by omega)
  have w1 : IntKind.wrap .i64 (1 + x1) = 1 + x1 := w64 (by omega) (by omega)
  have he := hmp.ends
  obtain ⟨x2, e2, b2, p2⟩ := L_s_InOf hm
  obtain ⟨x3, e3, b3, p3⟩ := L_s_OutOf hm
  have p2 := p2 hmp
  have p3 := p3 hmp
  have := g_s_l6Batch (ds := [.sl cd, .int i, .int h, vO l]) (Q := fun q => ∃ (p : List (List Int × List Int)) (i' h' : Int), q = [vP p, .sl cd, .int i', .int h'] ∧ BatchP l p ∧ Cur cd i') (by
    unfold t_s_l6Batch
    simp only [wp_ask, c_bool, den_var, denL_cons, denL_nil, den_int, den_bool, D.b_bool, nth_zero, nth_succ, forall_const, den_call', e1, true_and]
    refine wp_loop (fun k vs => ∃ (j : Nat) (i' h' : Int) (p : List (List Int × List Int)), vs = [.int j, .int i', .int h', vP p] ∧ (j + p.length = (1 + x1).toNat ∧ Bq l p) ∧ Cur cd i' ∧ j = k) rfl (1 + x1).toNat ⟨(1 + x1).toNat, i1, h1, [], ?_, ⟨by simp, Bq.nil⟩, c1, rfl⟩ ?_
    · simp [e1, w1, vP]
      omega
    rintro k _ ⟨j, i', h', p, rfl, ⟨hl, hl'⟩, hc', rfl⟩
    obtain ⟨l4, i4, h4, e4, b4, c4⟩ := L_s_l3Vec (h := h') (m := x2) hc' (by omega)
    obtain ⟨l5, i5, h5, e5, b5, c5⟩ := L_s_l3Vec (h := h4) (m := x3) c4 (by omega)
    by_cases hj : 0 < j
    · have wj : IntKind.wrap .i64 ((j : Int) - 1) = ((j - 1 : Nat) : Int) := by rw [w64 (by omega) (by omega)]; omega
      simp [e2, e3, e4, e5, chunks, vP_push, hj, wj]
      refine ⟨by omega, _, ?_, j - 1, _, _, _, ⟨rfl, rfl, rfl, rfl⟩, ⟨?_, hl'.push ⟨vecOk_iff.mpr ⟨by omega, b4.2⟩, by omega⟩ ⟨vecOk_iff.mpr ⟨by omega, b5.2⟩, by omega⟩⟩, c5, rfl⟩
      · omega
      · simp; omega
    · simp [hj]
      exact ⟨p, _, ⟨rfl, rfl⟩, ⟨hmp, by omega, hl'⟩, hc'⟩)
  obtain ⟨h1, x, i', h', h2, h3⟩ := this
  exact ⟨x, i', h', ⟨h1, h2⟩, h3⟩

theorem L_s_BatchOk {l : List OpS} {p : List (List Int × List Int)} (hm : Mo l) (hp : Sm p) (hq : ∀ q ∈ p, Sm q.1 ∧ Sm q.2) : ∃ b : Bool, (Pr s_BatchOk [vO l, vP p] ∧ G s_BatchOk [vO l, vP p] = [.bool b]) ∧ (b = true ↔ BatchP l p) := by
  obtain ⟨b1, e1, hb⟩ := L_s_ModelOk hm.1 hm.2
  obtain ⟨x2, e2, b2, p2⟩ := L_s_InOf hm
  obtain ⟨x3, e3, b3, p3⟩ := L_s_OutOf hm
  have := g_s_BatchOk (ds := [vO l, vP p]) (Q := BP (BatchP l p)) (by
    unfold t_s_BatchOk
    cases b1 with
    | false =>
      simp [e1]
      exact BP.ff fun h => by have := hb.mpr h.1; cases this
    | true =>
    have hmp := hb.mp rfl
    have p2 := p2 hmp
    have p3 := p3 hmp
    simp [e1]
    split
    · exact BP.ff fun h => by have := h.2.1; omega
    · refine wp_loop (fun m vs => ∃ j : Nat, vs = [.int j] ∧ j ≤ p.length ∧ Bq l (p.take j) ∧ m = p.length - j) rfl p.length ⟨0, rfl, by omega, Bq.nil, by omega⟩ ?_
      rintro m _ ⟨j, rfl, hj, hbq, rfl⟩
      unfold Sm at hp
      by_cases hlt : j < p.length
      · obtain ⟨x, hx⟩ := at_some hlt
        have s := hq _ (List.mem_of_getElem? hx)
        simp [-getElem?_pos, hlt, hx, cel_vP0 hx, cel_vP1 hx, L_s_VecOk s.1, L_s_VecOk s.2, e2, e3]
        refine ⟨?_, ?_, ?_⟩
        · cases vecOk x.1 <;> cases vecOk x.2 <;> simp
        · cases vecOk x.1 <;> cases vecOk x.2 <;> simp
          omega
        · split
          · rename_i hc
            refine BP.ff fun h => ?_
            have := h.2.2 x (List.mem_of_getElem? hx)
            exact hc this.1 this.2.1 (by omega) (by omega)
          · rename_i hc
            simp only [Classical.not_imp, Decidable.not_not] at hc
            refine ⟨_, by omega, j + 1, wS (by omega), by omega, forall_step hbq hx ⟨hc.1, hc.2.1, by omega, by omega⟩, rfl⟩
      · have : j = p.length := by omega
        subst this
        rw [List.take_length] at hbq
        simp [hlt]
        exact .tt ⟨hmp, by omega, hbq⟩)
  obtain ⟨h1, x, h2, h3⟩ := this
  exact ⟨x, ⟨h1, h2⟩, h3⟩

/-- Rows of small vectors. -/
def Rs (n m : Nat) (l : List (List Int)) : Prop := l.length ≤ n ∧ ∀ r ∈ l, r.length ≤ m
theorem Rs.nil {n m : Nat} : Rs n m [] := ⟨Nat.zero_le _, by intro q hq; cases hq⟩
theorem mem_push {α : Type} {p : α → Prop} {l : List α} {x : α} (h : ∀ q ∈ l, p q) (hx : p x) : ∀ q ∈ l ++ [x], p q := by
  intro q hq
  rcases List.mem_append.mp hq with hq | hq
  · exact h q hq
  · cases List.mem_singleton.mp hq
    exact hx
def Al (m : Nat) (l : List (List Int)) : Prop := ∀ r ∈ l, r.length ≤ m
theorem Al.nil {m : Nat} : Al m [] := by intro q hq; cases hq
theorem Al.push {m : Nat} {l : List (List Int)} (h : Al m l) {x : List Int} (hx : x.length ≤ m) : Al m (l ++ [x]) := mem_push h hx
theorem rep_vI {n : Nat} {x : Int} : D.sl (List.replicate n [.int x]) = vI (List.replicate n x) := by simp [vI]

/-- Gradients that fit a model. -/
def FitP (l : List OpS) (r : List (List Int)) : Prop := r.length = l.length ∧ ∀ (j : Nat) (x : OpS) (y : List Int), l[j]? = some x → r[j]? = some y → y.length = x.p.length
theorem FitP.push {l : List OpS} {r : List (List Int)} {x : OpS} {y : List Int} (h : ∀ (j : Nat) (x : OpS) (y : List Int), l[j]? = some x → r[j]? = some y → y.length = x.p.length) (hx : l[r.length]? = some x) (hy : y.length = x.p.length) : ∀ (j : Nat) (u : OpS) (v : List Int), l[j]? = some u → (r ++ [y])[j]? = some v → v.length = u.p.length := by
  intro j u v hu hv
  by_cases hj : j < r.length
  · rw [List.getElem?_append_left hj] at hv
    exact h j u v hu hv
  · by_cases hj2 : j = r.length
    · subst hj2
      simp at hv
      rw [hx] at hu
      cases hu
      subst hv
      exact hy
    · rw [List.getElem?_eq_none (by simp; omega)] at hv
      cases hv
def zerosOf (l : List OpS) : List (List Int) := l.map fun o => List.replicate o.p.length 0
/-- Rows of numbers in range. -/
def AllR (r : List (List Int)) : Prop := ∀ y ∈ r, y.all fixOk = true
theorem zerosOf_fit {l : List OpS} : FitP l (zerosOf l) := by
  refine ⟨by simp [zerosOf], fun j x y hx hy => ?_⟩
  unfold zerosOf at hy
  rw [List.getElem?_map, hx] at hy
  cases hy
  simp
theorem rep_ok {n : Nat} : (List.replicate n (0 : Int)).all fixOk = true := by
  rw [List.all_eq_true]
  intro x hx
  rw [List.eq_of_mem_replicate hx]
  decide
theorem zerosOf_ok {l : List OpS} : AllR (zerosOf l) := by
  intro y hy
  unfold zerosOf at hy
  obtain ⟨o, _, rfl⟩ := List.mem_map.mp hy
  exact rep_ok
theorem zerosOf_Gk {l : List OpS} (h : Mo l) : Sm (zerosOf l) ∧ Al 1048576 (zerosOf l) := by
  refine ⟨?_, fun y hy => ?_⟩
  · have := h.1
    unfold Sm at *
    simpa [zerosOf] using this
  · unfold zerosOf at hy
    obtain ⟨o, ho, rfl⟩ := List.mem_map.mp hy
    simpa using h.2 o ho
theorem zerosOf_take {l : List OpS} {j : Nat} {x : OpS} (hx : l[j]? = some x) : zerosOf (l.take (j + 1)) = zerosOf (l.take j) ++ [List.replicate x.p.length 0] := by
  have hj : j < l.length := by
    rcases Nat.lt_or_ge j l.length with h | h
    · exact h
    · simp [List.getElem?_eq_none h] at hx
  rw [List.take_succ_eq_append_getElem hj]
  have : l[j] = x := by rw [List.getElem?_eq_getElem hj] at hx; simpa using hx
  simp [zerosOf, this]
def IZ (l : List OpS) (k : Nat) (vs : List D) : Prop := ∃ j : Nat, vs = [.int j, vR (zerosOf (l.take j))] ∧ j ≤ l.length ∧ k = l.length - j
theorem L_s_ZeroGrads {l : List OpS} (h : Mo l) (hmp : ModelP l) : Pr s_ZeroGrads [vO l] ∧ G s_ZeroGrads [vO l] = [vR (zerosOf l), .int 0, .bool false] := by
  obtain ⟨b1, e1, hb⟩ := L_s_ModelOk h.1 h.2
  have e1' := hb.mpr hmp
  subst e1'
  exact g_s_ZeroGrads (ds := [vO l]) (Q := fun q => q = _) (by
    unfold t_s_ZeroGrads
    refine wp_loop (IZ l) rfl l.length ⟨0, rfl, by omega, by omega⟩ ?_
    rintro m _ ⟨j, rfl, hj, rfl⟩
    have hl := h.1
    unfold Sm at hl
    by_cases hlt : j < l.length
    · obtain ⟨x, hx⟩ := at_some hlt
      have s := h.2 _ (List.mem_of_getElem? hx)
      have hz : (zerosOf (l.take j)).length = j := by simp [zerosOf]; omega
      simp [-getElem?_pos, hlt, cel_vO3 hx, e1, mk1, rep_vI, vR_push, hz]
      exact ⟨by omega, by omega, l.length - (j + 1), by omega, j + 1, by rw [wS (by omega), zerosOf_take hx], hlt, rfl⟩
    · have : j = l.length := by omega
      subst this
      simp)
theorem L_i_ZeroGrads {l : List OpS} (h : Mo l) (hmp : ModelP l) (hok : Pr i_ModelOk [vO l] ∧ G i_ModelOk [vO l] = [.bool true]) : Pr i_ZeroGrads [vO l] ∧ G i_ZeroGrads [vO l] = [vR (zerosOf l), .int 0, .bool false] :=
  g_i_ZeroGrads (ds := [vO l]) (Q := fun q => q = _) (by
    unfold t_i_ZeroGrads
    simp [hok]
    refine wp_loop (IZ l) rfl l.length ⟨0, rfl, by omega, by omega⟩ ?_
    rintro m _ ⟨j, rfl, hj, rfl⟩
    have hl := h.1
    unfold Sm at hl
    by_cases hlt : j < l.length
    · obtain ⟨x, hx⟩ := at_some hlt
      have s := h.2 _ (List.mem_of_getElem? hx)
      have hz : (zerosOf (l.take j)).length = j := by simp [zerosOf]; omega
      simp [-getElem?_pos, hlt, cel_vO3 hx, mk1, rep_vI, vR_push, hz]
      exact ⟨by omega, by omega, l.length - (j + 1), by omega, j + 1, by rw [wS (by omega), zerosOf_take hx], hlt, rfl⟩
    · have : j = l.length := by omega
      subst this
      simp)

@[simp] theorem L_s_l5Mat {a b c d : D} : Pr s_l5Mat [a, b, c, d] ∧ G s_l5Mat [a, b, c, d] = [c, b, d] :=
  g_s_l5Mat (Q := fun q => q = _) (by unfold t_s_l5Mat; simp)

def matOk (i o : Int) (p : List Int) : Bool := decide (1 ≤ i ∧ i ≤ 6) && decide (1 ≤ o ∧ o ≤ 6) && decide ((p.length : Int) = i * o) && p.all fixOk
theorem matOk_iff {i o : Int} {p : List Int} : matOk i o p = true ↔ (1 ≤ i ∧ i ≤ 6) ∧ (1 ≤ o ∧ o ≤ 6) ∧ (p.length : Int) = i * o ∧ p.all fixOk = true := by
  simp only [matOk, Bool.and_eq_true, decide_eq_true_eq, and_assoc]

theorem L_s_MatOk {i o : Int} {p : List Int} (hp : Sm p) : Pr s_MatOk [.int i, .int o, vI p] ∧ G s_MatOk [.int i, .int o, vI p] = [.bool (matOk i o p)] :=
  g_s_MatOk (Q := fun q => q = _) (by
    unfold t_s_MatOk
    simp
    refine ⟨by omega, by omega, ?_⟩
    split
    · rename_i hc
      simp only [matOk, Bool.and_eq_false_iff, decide_eq_false_iff_not]
      by_cases g : (1 ≤ i ∧ i ≤ 6) ∧ (1 ≤ o ∧ o ≤ 6)
      · have := mul36 g.1 g.2
        have w : IntKind.wrap .i64 (i * o) = i * o := w64 (by omega) (by omega)
        rw [w] at hc
        exact .inl (.inr (hc (by omega) (by omega) (by omega) (by omega)))
      · omega
    · rename_i hc
      have g : (1 ≤ i ∧ i ≤ 6) ∧ (1 ≤ o ∧ o ≤ 6) := by omega
      have g1 := mul36 g.1 g.2
      have w : IntKind.wrap .i64 (i * o) = i * o := w64 (by omega) (by omega)
      rw [w] at hc
      simp only [Classical.not_imp, Decidable.not_not] at hc
      refine wp_loop (fun m vs => ∃ j : Nat, vs = [.int j] ∧ j ≤ p.length ∧ (p.take j).all fixOk = true ∧ m = p.length - j) rfl p.length ⟨0, rfl, by omega, by simp, by omega⟩ ?_
      rintro m _ ⟨j, rfl, hj, ha, rfl⟩
      unfold Sm at hp
      by_cases hlt : j < p.length
      · obtain ⟨x, hx⟩ := at_some hlt
        simp [-getElem?_pos, hlt, hx]
        split
        · rename_i hf
          rw [wS (by omega)]
          refine ⟨_, by omega, j + 1, rfl, by omega, ?_, rfl⟩
          have := all_step (p := fixOk) hx
          rw [ha] at this
          simpa [hf] using this
        · rename_i hf
          simp [matOk, all_miss hx (by simpa using hf)]
      · have : j = p.length := by omega
        subst this
        rw [List.take_length] at ha
        simp [matOk, ha]
        omega)

end Go.Sx
