/-
  What the program's functions compute, as plain data: each from its tree.
-/
import Derived.Test.YtnglgoloeabbeaaXsB
namespace Go.Sx
open Go
set_option linter.unusedSimpArgs false
set_option linter.unusedVariables false


@[simp] theorem L_s_FixOk {a : Int} : Pr s_FixOk [.int a] ∧ G s_FixOk [.int a] = [.bool (fixOk a)] :=
  g_s_FixOk (Q := fun o => o = _) (by unfold t_s_FixOk; simp [fixOk])

theorem all_step {α : Type} {l : List α} {p : α → Bool} {j : Nat} {x : α} (hx : l[j]? = some x) : (l.take (j + 1)).all p = ((l.take j).all p && p x) := by
  have hj : j < l.length := by
    rcases Nat.lt_or_ge j l.length with h | h
    · exact h
    · simp [List.getElem?_eq_none h] at hx
  rw [List.take_succ_eq_append_getElem hj, List.all_append]
  have : l[j] = x := by rw [List.getElem?_eq_getElem hj] at hx; simpa using hx
  simp [this]
theorem all_miss {α : Type} {l : List α} {p : α → Bool} {j : Nat} {x : α} (hx : l[j]? = some x) (h : p x = false) : l.all p = false := by
  rw [List.all_eq_false]
  exact ⟨x, List.mem_of_getElem? hx, by simp [h]⟩

theorem L_s_OpOk {k i o : Int} {p : List Int} (hp : Sm p) : Pr s_OpOk [.int k, .int i, .int o, vI p] ∧ G s_OpOk [.int k, .int i, .int o, vI p] = [.bool (opOk ⟨k, i, o, p⟩)] :=
  g_s_OpOk (Q := fun o => o = _) (by
    unfold t_s_OpOk
    have loop : ∀ (ok : Bool), ok = p.all fixOk → wpT G Pr (fun q => q = [.bool ok]) [] [.int k, .int i, .int o, vI p] (.loop 4 [(n 0)] <|
      .ite (lt (v 4) (ln (v 3)))
      (.need (le (n 0) (v 4)) <|
       .need (lt (v 4) (ln (v 3))) <|
       ask s_FixOk [(ce 0 (v 3) (v 4))] <|
       .ite (nt (fn s_FixOk 0 [(ce 0 (v 3) (v 4))]))
       (.ret [ff])
       (.again 0 [(ad (v 4) (n 1))]))
      (.ret [tt])) := by
      intro ok hok
      refine wp_loop (fun m vs => ∃ j : Nat, vs = [.int j] ∧ j ≤ p.length ∧ (p.take j).all fixOk = true ∧ m = p.length - j) rfl p.length ⟨0, rfl, by omega, by simp, by omega⟩ ?_
      rintro m _ ⟨j, rfl, hj, ha, rfl⟩
      unfold Sm at hp
      by_cases hlt : j < p.length
      · obtain ⟨x, hx⟩ := at_some hlt
        simp [-getElem?_pos, hlt, hx]
        split
        · rename_i hf
          rw [wS (by omega)]
          refine ⟨_, by omega, j + 1, rfl, by omega, ?_, rfl⟩
          have := all_step (p := fixOk) hx
          rw [ha] at this
          simpa [hf] using this
        · rename_i hf
          rw [hok, all_miss hx (by simpa using hf)]
      · have : j = p.length := by omega
        subst this
        simp
        rw [hok, ← ha, List.take_length]
    simp
    refine ⟨by omega, by omega, by omega, by omega, by omega, ?_⟩
    split
    · rename_i hc
      simp only [opOk, Bool.and_eq_false_iff, decide_eq_false_iff_not]
      by_cases g : ((1 ≤ k ∧ k ≤ 5) ∧ (1 ≤ i ∧ i ≤ 6) ∧ (1 ≤ o ∧ o ≤ 6)) ∧ (k = 1 ∨ i = o)
      · have := hc (by omega) (by omega) (by omega) (by omega) (by omega) (by omega) (by omega)
        exact .inl (.inr this)
      · simp only [Bool.or_eq_false_iff, decide_eq_false_iff_not]
        omega
    · rename_i hc
      simp only [Classical.not_imp, Decidable.not_not] at hc
      exact loop _ (by simp [opOk]; omega))
theorem forall_step {α : Type} {l : List α} {p : α → Prop} {j : Nat} {x : α} (ha : ∀ o ∈ l.take j, p o) (hx : l[j]? = some x) (h : p x) : ∀ o ∈ l.take (j + 1), p o := by
  have hj : j < l.length := by
    rcases Nat.lt_or_ge j l.length with h | h
    · exact h
    · simp [List.getElem?_eq_none h] at hx
  rw [List.take_succ_eq_append_getElem hj]
  have : l[j] = x := by rw [List.getElem?_eq_getElem hj] at hx; simpa using hx
  intro o ho
  simp [this] at ho
  rcases ho with ho | rfl
  · exact ha o ho
  · exact h

/-- A truth value that tells whether this holds. -/
def BP (p : Prop) (q : List D) : Prop := ∃ b : Bool, q = [.bool b] ∧ (b = true ↔ p)
theorem BP.tt {p : Prop} (h : p) : BP p [.bool true] := ⟨true, rfl, by simp [h]⟩
theorem BP.ff {p : Prop} (h : ¬ p) : BP p [.bool false] := ⟨false, rfl, by simp [h]⟩

/-- A model's operations fit. -/
theorem L_s_ModelOk {l : List OpS} (hl : Sm l) (ho : ∀ o ∈ l, o.p.length ≤ 1048576) : ∃ b : Bool, (Pr s_ModelOk [vO l] ∧ G s_ModelOk [vO l] = [.bool b]) ∧ (b = true ↔ ModelP l) := by
  have := g_s_ModelOk (ds := [vO l]) (Q := BP (ModelP l)) (by
    unfold t_s_ModelOk
    refine wp_loop (fun m vs => ∃ j : Nat, vs = [.int j] ∧ j ≤ l.length ∧ (∀ o ∈ l.take j, opOk o = true) ∧ (∀ (i : Nat) (x y : OpS), i + 1 < j → l[i]? = some x → l[i + 1]? = some y → y.i = x.o) ∧ m = l.length - j) rfl l.length ⟨0, rfl, by omega, by simp, by intro i x y h; omega, by omega⟩ ?_
    rintro m _ ⟨j, rfl, hj, ha, hch, rfl⟩
    unfold Sm at hl
    by_cases hlt : j < l.length
    · obtain ⟨x, hx⟩ := at_some hlt
      have e := L_s_OpOk (k := x.k) (i := x.i) (o := x.o) (p := x.p) (ho _ (List.mem_of_getElem? hx))
      have wj : IntKind.wrap .i64 ((j : Int) - 1) = (j : Int) - 1 := w64 (by omega) (by omega)
      cases hxo : opOk ⟨x.k, x.i, x.o, x.p⟩ with
      | false =>
        rw [hxo] at e
        simp [-getElem?_pos, hlt, cel_vO0 hx, cel_vO1 hx, cel_vO2 hx, cel_vO3 hx, e, wj]
        refine BP.ff fun hp => ?_
        have := hp.2.1 x (List.mem_of_getElem? hx)
        have e : x = ⟨x.k, x.i, x.o, x.p⟩ := rfl
        rw [e, hxo] at this
        cases this
      | true =>
        rw [hxo] at e
        by_cases h0 : 0 < j
        · obtain ⟨y, hy⟩ := at_some (l := l) (n := j - 1) (by omega)
          have cy := cel_vO2 hy
          have cj : (((j - 1 : Nat) : Int)) = (j : Int) - 1 := by omega
          rw [cj] at cy
          by_cases hc : x.i = y.o
          · simp [-getElem?_pos, hlt, cel_vO0 hx, cel_vO1 hx, cel_vO2 hx, cel_vO3 hx, e, wj, h0, cy]
            rw [if_pos hc]
            refine ⟨by omega, by omega, _, by omega, j + 1, wS (by omega), by omega, forall_step ha hx hxo, ?_, rfl⟩
            intro i u v hi hu hv
            by_cases hij : i + 1 < j
            · exact hch i u v hij hu hv
            · have : i = j - 1 := by omega
              subst this
              rw [hy] at hu
              rw [show j - 1 + 1 = j by omega, hx] at hv
              cases hu
              cases hv
              exact hc
          · simp [-getElem?_pos, hlt, cel_vO0 hx, cel_vO1 hx, cel_vO2 hx, cel_vO3 hx, e, wj, h0, cy]
            rw [if_neg hc]
            refine ⟨by omega, by omega, BP.ff fun hp => hc ?_⟩
            exact hp.2.2 (j - 1) y x hy (by rw [show j - 1 + 1 = j by omega]; exact hx)
        · have nj : j = 0 := by omega
          simp [-getElem?_pos, hlt, cel_vO0 hx, cel_vO1 hx, cel_vO2 hx, cel_vO3 hx, e, h0]
          exact ⟨_, by omega, j + 1, wS (by omega), by omega, forall_step ha hx hxo, by intro i u v hi; omega, rfl⟩
    · have : j = l.length := by omega
      subst this
      rw [List.take_length] at ha
      by_cases h8 : 1 ≤ l.length ∧ l.length ≤ 8
      · have h8' : (1 : Int) ≤ l.length ∧ (l.length : Int) ≤ 8 := by omega
        simp [h8']
        exact BP.tt ⟨h8, ha, fun i u v hu hv => hch i u v (by have := lt_of_at' hv; omega) hu hv⟩
      · have h8' : ¬ ((1 : Int) ≤ l.length ∧ (l.length : Int) ≤ 8) := by omega
        simp
        have : (decide ((1 : Int) ≤ l.length) && decide ((l.length : Int) ≤ 8)) = false := by
          rw [← Bool.decide_and]
          exact decide_eq_false h8'
        rw [this]
        exact BP.ff fun hp => h8 hp.1)
  obtain ⟨h1, x, h2, h3⟩ := this
  exact ⟨x, ⟨h1, h2⟩, h3⟩
where
  lt_of_at' {α : Type} {l : List α} {j : Nat} {x : α} (hx : l[j]? = some x) : j < l.length := by
    rcases Nat.lt_or_ge j l.length with h | h
    · exact h
    · simp [List.getElem?_eq_none h] at hx

end Go.Sx
