/-
  What the program's functions compute, as plain data: each from its tree.
-/
import Derived.Test.YtnglgoloeabbeaaXsU
namespace Go.Sx
open Go
set_option linter.unusedSimpArgs false
set_option linter.unusedVariables false


/-! ### Marks, and that they hold -/

def seqI (n : Int) : Nat → List Int
  | 0 => []
  | m + 1 => n :: seqI (n + 1) m
theorem seqI_len {n : Int} {m : Nat} : (seqI n m).length = m := by
  induction m generalizing n with
  | zero => rfl
  | succ m ih => simp [seqI, ih]
theorem seqI_at {n : Int} {m j : Nat} (h : j < m) : (seqI n m)[j]? = some (n + j) := by
  induction m generalizing n j with
  | zero => omega
  | succ m ih =>
    cases j with
    | zero => simp [seqI]
    | succ j =>
      simp only [seqI, List.getElem?_cons_succ]
      rw [ih (by omega)]
      congr 1
      omega

def cntO (n : Int) : List OpS → Int
  | [] => n
  | o :: l => cntO (n + 3 + o.p.length) l
def marksO (n : Int) : List OpS → List OpS
  | [] => []
  | o :: l => ⟨n, n + 1, n + 2, seqI (n + 3) o.p.length⟩ :: marksO (n + 3 + o.p.length) l
theorem marksO_len {n : Int} {l : List OpS} : (marksO n l).length = l.length := by
  induction l generalizing n with
  | nil => rfl
  | cons o l ih => simp [marksO, ih]
theorem marksO_at {n : Int} {l : List OpS} {j : Nat} {x : OpS} (h : l[j]? = some x) : (marksO n l)[j]? = some ⟨cntO n (l.take j), cntO n (l.take j) + 1, cntO n (l.take j) + 2, seqI (cntO n (l.take j) + 3) x.p.length⟩ := by
  induction l generalizing n j with
  | nil => cases h
  | cons o l ih =>
    cases j with
    | zero =>
      cases h
      rfl
    | succ j =>
      simp only [marksO, List.getElem?_cons_succ, List.take_succ_cons, cntO]
      exact ih h
theorem cntO_step {n : Int} {l : List OpS} {j : Nat} {x : OpS} (h : l[j]? = some x) : cntO n (l.take (j + 1)) = cntO n (l.take j) + 3 + x.p.length := by
  induction l generalizing n j with
  | nil => cases h
  | cons o l ih =>
    cases j with
    | zero =>
      cases h
      rfl
    | succ j =>
      simp only [List.take_succ_cons, cntO]
      exact ih h
theorem cntO_le {n : Int} {l : List OpS} (h : ∀ o ∈ l, o.p.length ≤ 1048576) : n ≤ cntO n l ∧ cntO n l ≤ n + l.length * 1048579 := by
  induction l generalizing n with
  | nil => simp [cntO]
  | cons o l ih =>
    have h1 := h o (by simp)
    have h2 := ih (n := n + 3 + o.p.length) fun q hq => h q (by simp [hq])
    simp only [cntO, List.length_cons]
    omega
def cntR (n : Int) : List (List Int) → Int
  | [] => n
  | r :: l => cntR (n + r.length) l
def marksR (n : Int) : List (List Int) → List (List Int)
  | [] => []
  | r :: l => seqI n r.length :: marksR (n + r.length) l
theorem marksR_len {n : Int} {l : List (List Int)} : (marksR n l).length = l.length := by
  induction l generalizing n with
  | nil => rfl
  | cons o l ih => simp [marksR, ih]
theorem marksR_at {n : Int} {l : List (List Int)} {j : Nat} {x : List Int} (h : l[j]? = some x) : (marksR n l)[j]? = some (seqI (cntR n (l.take j)) x.length) := by
  induction l generalizing n j with
  | nil => cases h
  | cons o l ih =>
    cases j with
    | zero =>
      cases h
      rfl
    | succ j =>
      simp only [marksR, List.getElem?_cons_succ, List.take_succ_cons, cntR]
      exact ih h
theorem cntR_step {n : Int} {l : List (List Int)} {j : Nat} {x : List Int} (h : l[j]? = some x) : cntR n (l.take (j + 1)) = cntR n (l.take j) + x.length := by
  induction l generalizing n j with
  | nil => cases h
  | cons o l ih =>
    cases j with
    | zero =>
      cases h
      rfl
    | succ j =>
      simp only [List.take_succ_cons, cntR]
      exact ih h
theorem cntR_le {n : Int} {l : List (List Int)} (h : Al 1048576 l) : n ≤ cntR n l ∧ cntR n l ≤ n + l.length * 1048576 := by
  induction l generalizing n with
  | nil => simp [cntR]
  | cons o l ih =>
    have h1 := h o (by simp)
    have h2 := ih (n := n + o.length) fun q hq => h q (by simp [hq])
    simp only [cntR, List.length_cons]
    omega

/-- A counter that is far from the end. -/
def Few (n : Int) : Prop := 0 ≤ n ∧ n ≤ 8796093022208

theorem L_w_markIntS {l : List Int} {n : Int} (h : Sm l) (hn : Few n) : Pr w_markIntS [vI l, .int n] ∧ G w_markIntS [vI l, .int n] = [.int (n + l.length), vI (seqI n l.length)] :=
  g_w_markIntS (Q := fun q => q = _) (by
    unfold Sm at h
    unfold Few at hn
    unfold t_w_markIntS
    refine wp_loop (fun k vs => ∃ j : Nat, vs = [.int j, .int (n + j), vI ((seqI n l.length).take j ++ l.drop j)] ∧ j ≤ l.length ∧ k = l.length - j) rfl l.length ⟨0, by simp, by omega, rfl⟩ ?_
    rintro k _ ⟨j, rfl, hj, rfl⟩
    have hm := mix_len (l := seqI n l.length) (c := l) (j := j) (by rw [seqI_len]) (by rw [seqI_len]; exact hj)
    rw [seqI_len] at hm
    by_cases hlt : j < l.length
    · have w : IntKind.wrap .i64 (n + (j : Int) + 1) = n + ((j + 1 : Nat) : Int) := by rw [w64 (by omega) (by omega)]; omega
      simp [-List.length_append, -List.length_take, -Int.natCast_add, hlt, hm, vI_set, w]
      exact ⟨l.length - (j + 1), by omega, j + 1, ⟨wS (by omega), rfl, by rw [mix_step (seqI_at hlt) (by rw [seqI_len])]⟩, by omega, rfl⟩
    · have : j = l.length := by omega
      subst this
      have e : (seqI n l.length).take l.length = seqI n l.length := List.take_of_length_le (by rw [seqI_len]; omega)
      simp [e, seqI_len])

theorem vO_set012 {l : List OpS} {n : Nat} {a b c : Int} : D.sl ((((vO l).l.modify n fun x => x.set 0 (.int a)).modify n fun x => x.set 1 (.int b)).modify n fun x => x.set 2 (.int c)) = vO (l.modify n fun o => ⟨a, b, c, o.p⟩) := by
  unfold vO
  simp only [D.l_sl]
  rw [List.modify_modify_eq, List.modify_modify_eq]
  rw [modify_map (h := fun o => ⟨a, b, c, o.p⟩) (by intro a; rfl)]
theorem vO_set0123 {l : List OpS} {n : Nat} {a b c : Int} {q : List Int} : D.sl (((((vO l).l.modify n fun x => x.set 0 (.int a)).modify n fun x => x.set 1 (.int b)).modify n fun x => x.set 2 (.int c)).modify n fun x => x.set 3 (vI q)) = vO (l.set n ⟨a, b, c, q⟩) := by
  unfold vO
  simp only [D.l_sl]
  rw [List.modify_modify_eq, List.modify_modify_eq, List.modify_modify_eq]
  rw [modify_map (h := fun _ => ⟨a, b, c, q⟩) (by intro a; rfl), modify_const]

theorem L_w_markOpS {l : List OpS} (h : Mo l) : Pr w_markOpS [vO l, .int 1] ∧ G w_markOpS [vO l, .int 1] = [.int (cntO 1 l), vO (marksO 1 l)] :=
  g_w_markOpS (Q := fun q => q = _) (by
    have h1 := h.1
    unfold Sm at h1
    unfold t_w_markOpS
    refine wp_loop (fun k vs => ∃ j : Nat, vs = [.int j, .int (cntO 1 (l.take j)), vO ((marksO 1 l).take j ++ l.drop j)] ∧ j ≤ l.length ∧ k = l.length - j) rfl l.length ⟨0, by simp [cntO], by omega, rfl⟩ ?_
    rintro k _ ⟨j, rfl, hj, rfl⟩
    have hm := mix_len (l := marksO 1 l) (c := l) (j := j) (by rw [marksO_len]) (by rw [marksO_len]; exact hj)
    rw [marksO_len] at hm
    by_cases hlt : j < l.length
    · obtain ⟨x, hx⟩ := at_some hlt
      have hx' := h.at hx
      have hc := cntO_le (n := 1) (l := l.take j) fun o ho => h.2 o (List.mem_of_mem_take ho)
      have hlt' : (l.take j).length = j := by simp; omega
      rw [hlt'] at hc
      have hcx : ((marksO 1 l).take j ++ l.drop j)[j]? = some x := by
        have : ((marksO 1 l).take j).length = j := by simp [marksO_len]; omega
        rw [List.getElem?_append_right (by omega), this, List.getElem?_drop]
        simpa using hx
      have w1 : IntKind.wrap .i64 (cntO 1 (l.take j) + 1) = cntO 1 (l.take j) + 1 := w64 (by omega) (by omega)
      have w2 : IntKind.wrap .i64 (cntO 1 (l.take j) + 1 + 1) = cntO 1 (l.take j) + 2 := by rw [w64 (by omega) (by omega)]; omega
      have w3 : IntKind.wrap .i64 (cntO 1 (l.take j) + 2 + 1) = cntO 1 (l.take j) + 3 := by rw [w64 (by omega) (by omega)]; omega
      have e := L_w_markIntS (n := cntO 1 (l.take j) + 3) hx' (by unfold Few; omega)
      have hcm : (((marksO 1 l).take j ++ l.drop j).modify j fun o => ⟨cntO 1 (l.take j), cntO 1 (l.take j) + 1, cntO 1 (l.take j) + 2, o.p⟩)[j]? = some ⟨cntO 1 (l.take j), cntO 1 (l.take j) + 1, cntO 1 (l.take j) + 2, x.p⟩ := by
        rw [List.getElem?_modify, hcx]
        simp
      simp [-getElem?_pos, -List.length_append, -List.length_take, hlt, hm, w1, w2, w3, vO_set012, cel_vO3 hcm, e, vO_set3]
      refine ⟨l.length - (j + 1), by omega, j + 1, ⟨wS (by omega), by rw [cntO_step hx], ?_⟩, by omega, rfl⟩
      rw [← mix_step (marksO_at hx) (by rw [marksO_len]), ← modify_const, List.modify_modify_eq]
      rfl
    · have : j = l.length := by omega
      subst this
      have e : (marksO 1 l).take l.length = marksO 1 l := List.take_of_length_le (by rw [marksO_len]; omega)
      simp [e, marksO_len])

theorem L_w_markRowS {l : List (List Int)} {n : Int} (h : Gk l) (hn : 0 ≤ n ∧ n ≤ 4398046511104) : Pr w_markRowS [vR l, .int n] ∧ G w_markRowS [vR l, .int n] = [.int (cntR n l), vR (marksR n l)] :=
  g_w_markRowS (Q := fun q => q = _) (by
    have h1 := h.1
    unfold Sm at h1
    unfold t_w_markRowS
    refine wp_loop (fun k vs => ∃ j : Nat, vs = [.int j, .int (cntR n (l.take j)), vR ((marksR n l).take j ++ l.drop j)] ∧ j ≤ l.length ∧ k = l.length - j) rfl l.length ⟨0, by simp [cntR], by omega, rfl⟩ ?_
    rintro k _ ⟨j, rfl, hj, rfl⟩
    have hm := mix_len (l := marksR n l) (c := l) (j := j) (by rw [marksR_len]) (by rw [marksR_len]; exact hj)
    rw [marksR_len] at hm
    by_cases hlt : j < l.length
    · obtain ⟨x, hx⟩ := at_some hlt
      have hx' := h.2.at hx
      have hc := cntR_le (n := n) (l := l.take j) fun o ho => h.2 o (List.mem_of_mem_take ho)
      have hlt' : (l.take j).length = j := by simp; omega
      rw [hlt'] at hc
      have hcx : ((marksR n l).take j ++ l.drop j)[j]? = some x := by
        have : ((marksR n l).take j).length = j := by simp [marksR_len]; omega
        rw [List.getElem?_append_right (by omega), this, List.getElem?_drop]
        simpa using hx
      have e := L_w_markIntS (n := cntR n (l.take j)) hx' (by unfold Few; omega)
      simp [-getElem?_pos, -List.length_append, -List.length_take, hlt, hm, cel_vR hcx, e, vR_set]
      refine ⟨l.length - (j + 1), by omega, j + 1, ⟨wS (by omega), by rw [cntR_step hx], ?_⟩, by omega, rfl⟩
      rw [← mix_step (marksR_at hx) (by rw [marksR_len])]
    · have : j = l.length := by omega
      subst this
      have e : (marksR n l).take l.length = marksR n l := List.take_of_length_le (by rw [marksR_len]; omega)
      simp [e, marksR_len])

theorem L_w_heldIntS {m : Nat} {n : Int} (hm : m ≤ 1048576) (hn : Few n) : Pr w_heldIntS [vI (seqI n m), .int n] ∧ G w_heldIntS [vI (seqI n m), .int n] = [.int (n + m)] :=
  g_w_heldIntS (Q := fun q => q = _) (by
    unfold Few at hn
    unfold t_w_heldIntS
    refine wp_loop (fun k vs => ∃ j : Nat, vs = [.int j, .int (n + j)] ∧ j ≤ m ∧ k = m - j) rfl m ⟨0, by simp, by omega, rfl⟩ ?_
    rintro k _ ⟨j, rfl, hj, rfl⟩
    by_cases hlt : j < m
    · have w : IntKind.wrap .i64 (n + (j : Int) + 1) = n + ((j + 1 : Nat) : Int) := by rw [w64 (by omega) (by omega)]; omega
      simp [-getElem?_pos, -Int.natCast_add, seqI_len, hlt, seqI_at hlt, w]
      exact ⟨m - (j + 1), by omega, j + 1, ⟨wS (by omega), rfl⟩, by omega, rfl⟩
    · have : j = m := by omega
      subst this
      simp [seqI_len])

theorem L_w_heldOpS {l : List OpS} (h : Mo l) : Pr w_heldOpS [vO (marksO 1 l), .int 1] ∧ G w_heldOpS [vO (marksO 1 l), .int 1] = [.int (cntO 1 l)] :=
  g_w_heldOpS (Q := fun q => q = _) (by
    have h1 := h.1
    unfold Sm at h1
    unfold t_w_heldOpS
    refine wp_loop (fun k vs => ∃ j : Nat, vs = [.int j, .int (cntO 1 (l.take j))] ∧ j ≤ l.length ∧ k = l.length - j) rfl l.length ⟨0, by simp [cntO], by omega, rfl⟩ ?_
    rintro k _ ⟨j, rfl, hj, rfl⟩
    by_cases hlt : j < l.length
    · obtain ⟨x, hx⟩ := at_some hlt
      have hx' := h.at hx
      have hc := cntO_le (n := 1) (l := l.take j) fun o ho => h.2 o (List.mem_of_mem_take ho)
      have hlt' : (l.take j).length = j := by simp; omega
      rw [hlt'] at hc
      have hmx := marksO_at (n := 1) hx
      have w1 : IntKind.wrap .i64 (cntO 1 (l.take j) + 1) = cntO 1 (l.take j) + 1 := w64 (by omega) (by omega)
      have w2 : IntKind.wrap .i64 (cntO 1 (l.take j) + 1 + 1) = cntO 1 (l.take j) + 2 := by rw [w64 (by omega) (by omega)]; omega
      have w3 : IntKind.wrap .i64 (cntO 1 (l.take j) + 2 + 1) = cntO 1 (l.take j) + 3 := by rw [w64 (by omega) (by omega)]; omega
      have e := L_w_heldIntS (m := x.p.length) (n := cntO 1 (l.take j) + 3) hx' (by unfold Few; omega)
      have hpos : ¬ (cntO 1 (l.take j) + 3 + (x.p.length : Int) < 0) := by omega
      simp [-getElem?_pos, marksO_len, hlt, w1, w2, w3, cel_vO0 hmx, cel_vO1 hmx, cel_vO2 hmx, cel_vO3 hmx, e, hpos]
      exact ⟨l.length - (j + 1), by omega, j + 1, ⟨wS (by omega), by rw [cntO_step hx]⟩, by omega, rfl⟩
    · have : j = l.length := by omega
      subst this
      simp [marksO_len])
theorem L_w_heldRowS {l : List (List Int)} {n : Int} (h : Gk l) (hn : 0 ≤ n ∧ n ≤ 4398046511104) : Pr w_heldRowS [vR (marksR n l), .int n] ∧ G w_heldRowS [vR (marksR n l), .int n] = [.int (cntR n l)] :=
  g_w_heldRowS (Q := fun q => q = _) (by
    have h1 := h.1
    unfold Sm at h1
    unfold t_w_heldRowS
    refine wp_loop (fun k vs => ∃ j : Nat, vs = [.int j, .int (cntR n (l.take j))] ∧ j ≤ l.length ∧ k = l.length - j) rfl l.length ⟨0, by simp [cntR], by omega, rfl⟩ ?_
    rintro k _ ⟨j, rfl, hj, rfl⟩
    by_cases hlt : j < l.length
    · obtain ⟨x, hx⟩ := at_some hlt
      have hx' := h.2.at hx
      have hc := cntR_le (n := n) (l := l.take j) fun o ho => h.2 o (List.mem_of_mem_take ho)
      have hlt' : (l.take j).length = j := by simp; omega
      rw [hlt'] at hc
      have hmx := marksR_at (n := n) hx
      have e := L_w_heldIntS (m := x.length) (n := cntR n (l.take j)) hx' (by unfold Few; omega)
      have hpos : ¬ (cntR n (l.take j) + (x.length : Int) < 0) := by omega
      simp [-getElem?_pos, marksR_len, hlt, cel_vR hmx, e, hpos]
      exact ⟨l.length - (j + 1), by omega, j + 1, ⟨wS (by omega), by rw [cntR_step hx]⟩, by omega, rfl⟩
    · have : j = l.length := by omega
      subst this
      simp [marksR_len])

theorem cntO_few {l : List OpS} (h : Mo l) : 0 ≤ cntO 1 l ∧ cntO 1 l ≤ 1099515822081 := by
  have h1 := h.1
  unfold Sm at h1
  have := cntO_le (n := 1) h.2
  omega
theorem cntR_few {l : List (List Int)} {n : Int} (h : Gk l) (hn : 0 ≤ n ∧ n ≤ 2199031644162) : 0 ≤ cntR n l ∧ cntR n l ≤ n + 1099511627776 := by
  have h1 := h.1
  unfold Sm at h1
  have := cntR_le (n := n) h.2
  omega
theorem L_w_markModel {l : List OpS} (h : Mo l) : Pr w_markModel [vO l, .int 1] ∧ G w_markModel [vO l, .int 1] = [.int (cntO 1 l), vO (marksO 1 l)] :=
  g_w_markModel (Q := fun q => q = _) (by unfold t_w_markModel; simp [L_w_markOpS h])
theorem L_w_markSwing {l : List (List Int)} {x : D} {n : Int} (h : Gk l) (hn : 0 ≤ n ∧ n ≤ 4398046511104) : Pr w_markSwing [vR l, x, .int n] ∧ G w_markSwing [vR l, x, .int n] = [.int (cntR n l), vR (marksR n l)] :=
  g_w_markSwing (Q := fun q => q = _) (by unfold t_w_markSwing; simp [L_w_markRowS h hn])
theorem L_w_markGrads {l : List (List Int)} {x y : D} {n : Int} (h : Gk l) (hn : 0 ≤ n ∧ n ≤ 4398046511104) : Pr w_markGrads [vR l, x, y, .int n] ∧ G w_markGrads [vR l, x, y, .int n] = [.int (cntR n l), vR (marksR n l)] :=
  g_w_markGrads (Q := fun q => q = _) (by unfold t_w_markGrads; simp [L_w_markRowS h hn])
theorem L_w_heldModel {l : List OpS} (h : Mo l) : Pr w_heldModel [vO (marksO 1 l), .int 1] ∧ G w_heldModel [vO (marksO 1 l), .int 1] = [.int (cntO 1 l)] :=
  g_w_heldModel (Q := fun q => q = _) (by
    have := (cntO_few h).1
    have h0 : ¬ cntO 1 l < 0 := by omega
    unfold t_w_heldModel
    simp [L_w_heldOpS h, h0])
theorem L_w_heldSwing {l : List (List Int)} {x : D} {n : Int} (h : Gk l) (hn : 0 ≤ n ∧ n ≤ 2199031644162) : Pr w_heldSwing [vR (marksR n l), x, .int n] ∧ G w_heldSwing [vR (marksR n l), x, .int n] = [.int (cntR n l)] :=
  g_w_heldSwing (Q := fun q => q = _) (by
    have := (cntR_few h hn).1
    have h0 : ¬ cntR n l < 0 := by omega
    unfold t_w_heldSwing
    simp [L_w_heldRowS h (n := n) (by omega), h0])

set_option maxRecDepth 100000 in
theorem L_w_FnExactSwingStep {l : List OpS} {v r : List (List Int)} {k x rate mom : Int} {s : Bool} (hl : Lo l) (hlo : ∀ o ∈ l, Lo o.p) (hv : Lo v) (hvo : ∀ y ∈ v, Lo y) (hr : Lo r) (hro : ∀ y ∈ r, Lo y) :
    Pr w_FnExactSwingStep [vO l, vR v, .int k, vR r, .int x, .bool s, .int rate, .int mom] ∧ G w_FnExactSwingStep [vO l, vR v, .int k, vR r, .int x, .bool s, .int rate, .int mom] = [.bool true] :=
  g_w_FnExactSwingStep (Q := fun q => q = _) (by
    obtain ⟨m1, e1, b1, p1⟩ := L_w_szModel (n := 1048576) hl hlo (by omega)
    obtain ⟨m2, e2, b2, p2⟩ := L_w_szSwing (x := .int k) (n := m1) hv hvo (by omega)
    obtain ⟨m3, e3, b3, p3⟩ := L_w_szGrads (x := .int x) (y := .bool s) (n := m2) hr hro (by omega)
    unfold t_w_FnExactSwingStep
    by_cases h1 : m1 < 0
    · simp [e1, h1]
    by_cases h2 : m2 < 0
    · simp [e1, h1, e2, h2]
    by_cases h3 : m3 < 0
    · simp [e1, h1, e2, h2, e3, h3]
    have hmo := p1 (by omega)
    have hgv := p2 (by omega)
    have hgr := p3 (by omega)
    have a1 := L_w_toModel hmo
    have a2 := L_w_toSwing (x := .int k) hgv
    have a3 := L_w_toGrads (x := .int x) (y := .bool s) hgr
    have a4 := L_s_SwingStep (k := k) (r := r) (x := x) (s := s) (rate := rate) (mom := mom) hmo hgv
    have a5 := L_i_SwingStep (k := k) (r := r) (x := x) (s := s) (rate := rate) (mom := mom) hmo hgv
    obtain ⟨c, w, k', t, hq, hc, hw, hs, hn⟩ := stepD_one (k := k) (r := r) (rate := rate) (mom := mom) hmo hgv
    rw [hq] at a4 a5
    have n1 := cntO_few hmo
    have n2 := cntR_few (n := cntO 1 l) hgv (by omega)
    have n3 := cntR_few (n := cntR (cntO 1 l) v) hgr (by omega)
    have n4 := cntO_few hc
    have n5 := cntR_few (n := cntO 1 c) hw (by omega)
    have m0 : ¬ cntR (cntR (cntO 1 l) v) r < 0 := by omega
    have m4 : ¬ cntO 1 c < 0 := by omega
    have m5 : ¬ cntR (cntO 1 c) w < 0 := by omega
    have d1 := L_w_markModel hmo
    have d2 := L_w_markSwing (x := .int k) (n := cntO 1 l) hgv (by omega)
    have d3 := L_w_markGrads (x := .int x) (y := .bool s) (n := cntR (cntO 1 l) v) hgr (by omega)
    have d4 := L_w_markModel hc
    have d5 := L_w_markSwing (x := .int k') (n := cntO 1 c) hw (by omega)
    have d6 := L_w_heldModel hc
    have d7 := L_w_heldSwing (x := .int k') (n := cntO 1 c) hw (by omega)
    simp [e1, h1, e2, h2, e3, h3, a1, a2, a3, a4, a5, L_w_eqModel hc, L_w_eqSwing hw, L_w_eqModel hmo, L_w_eqSwing hgv, L_w_eqGrads hgr, d1, d2, d3, d4, d5, d6, d7, m0, m4, m5])

end Go.Sx
