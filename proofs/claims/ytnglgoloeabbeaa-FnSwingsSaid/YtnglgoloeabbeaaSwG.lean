/-
  What the program's functions compute, as plain data: each from its tree.
-/
import Derived.Test.YtnglgoloeabbeaaSwF
namespace Go.Sx
open Go
set_option linter.unusedSimpArgs false
set_option linter.unusedVariables false


theorem modify_map {α β : Type} {l : List α} {f : α → β} {n : Nat} {g : β → β} {h : α → α} (e : ∀ a, g (f a) = f (h a)) : (l.map f).modify n g = (l.modify n h).map f := by
  induction l generalizing n with
  | nil => cases n <;> rfl
  | cons a l ih =>
    cases n with
    | zero => simp [e]
    | succ n => simp [ih]
theorem modify_const {α : Type} {l : List α} {n : Nat} {y : α} : l.modify n (fun _ => y) = l.set n y := by
  induction l generalizing n with
  | nil => cases n <;> rfl
  | cons a l ih =>
    cases n with
    | zero => rfl
    | succ n => simp [ih]
theorem vR_set {l : List (List Int)} {n : Nat} {y : List Int} : D.sl ((vR l).l.modify n fun x => x.set 0 (vI y)) = vR (l.set n y) := by
  unfold vR
  simp only [D.l_sl]
  rw [modify_map (h := fun _ => y) (by intro a; rfl), modify_const]
theorem mem_set' {α : Type} {p : α → Prop} {l : List α} {n : Nat} {x : α} (h : ∀ q ∈ l, p q) (hx : p x) : ∀ q ∈ l.set n x, p q := by
  intro q hq
  rcases List.mem_or_eq_of_mem_set hq with hq | rfl
  · exact h q hq
  · exact hx

/-- Two numbers, a vector, a truth value. -/
def OutO (a b : List Int) (q : List D) : Prop := ∃ (x y : Int) (l : List Int) (s : Bool), q = [.int x, .int y, vI l, .bool s] ∧ l.length ≤ 36 ∧ (vecOk a = true → vecOk b = true → l.length = a.length * b.length)
theorem OutO.mk {a b : List Int} {x y : Int} {l : List Int} {s : Bool} (h : l.length ≤ 36) (h' : vecOk a = true → vecOk b = true → l.length = a.length * b.length) : OutO a b [.int x, .int y, vI l, .bool s] := ⟨x, y, l, s, rfl, h, h'⟩
def IOa (n m : Nat) (k : Nat) (vs : List D) : Prop := ∃ (j : Nat) (b : Bool) (r : List Int), vs = [.int j, .bool b, vI r] ∧ r.length = j * m ∧ j ≤ n ∧ k = n - j
def IOb (m c : Nat) (k : Nat) (vs : List D) : Prop := ∃ (j : Nat) (b : Bool) (r : List Int), vs = [.int c, .int j, .bool b, vI r] ∧ r.length = c * m + j ∧ j ≤ m ∧ k = m - j

theorem L_s_Outer {a b : List Int} (ha : Sm a) (hb : Sm b) : ∃ (x y : Int) (r : List Int) (s : Bool), (Pr s_Outer [vI a, vI b] ∧ G s_Outer [vI a, vI b] = [.int x, .int y, vI r, .bool s]) ∧ r.length ≤ 36 ∧ (vecOk a = true → vecOk b = true → r.length = a.length * b.length) := by
  have := g_s_Outer (ds := [vI a, vI b]) (Q := OutO a b) (by
    unfold t_s_Outer
    simp [L_s_VecOk ha, L_s_VecOk hb]
    split
    · rename_i hc
      exact OutO.mk (l := []) (by simp) fun h1 h2 => absurd (hc h1) (by simp [h2])
    · rename_i hc
      simp only [Classical.not_imp, Bool.not_eq_false] at hc
      have h1 := vecOk_iff.mp hc.1
      have h2 := vecOk_iff.mp hc.2
      refine wp_loop (IOa a.length b.length) rfl a.length ⟨0, false, [], rfl, by simp, by omega, by omega⟩ ?_
      rintro m _ ⟨j, s, r, rfl, hr, hj, rfl⟩
      have hjm : j * b.length ≤ 6 * 6 := Nat.mul_le_mul (by omega) (by omega)
      by_cases hlt : j < a.length
      · simp [hlt]
        refine wp_loop (IOb b.length j) rfl b.length ⟨0, s, r, by simp, by omega, by omega, by omega⟩ ?_
        rintro m _ ⟨i, s, r, rfl, hr, hi, rfl⟩
        by_cases hlt2 : i < b.length
        · obtain ⟨x, hx⟩ := at_some hlt
          obtain ⟨y, hy⟩ := at_some hlt2
          obtain ⟨z, t, ez, _⟩ := L_s_FixMul (x := x) (y := y)
          simp [-getElem?_pos, hlt, hlt2, hx, hy, ez, mk1, vI_push]
          exact ⟨by omega, b.length - (i + 1), by omega, i + 1, _, _, by rw [wS (by omega)], by simp; omega, hlt2, rfl⟩
        · simp [hlt2]
          exact ⟨a.length - (j + 1), by omega, j + 1, s, r, by rw [wS (by omega)], by rw [Nat.succ_mul]; omega, hlt, rfl⟩
      · have : j = a.length := by omega
        subst this
        simp
        exact .mk (by omega) fun _ _ => hr)
  obtain ⟨h1, x, y, r, s, h2, h3⟩ := this
  exact ⟨x, y, r, s, ⟨h1, h2⟩, h3⟩

/-- All is as the operation asks. -/
def BackO (k i o : Int) (p l g : List Int) : Prop := opOk ⟨k, i, o, p⟩ = true ∧ vecOk l = true ∧ (l.length : Int) = i ∧ vecOk g = true ∧ (g.length : Int) = o
def VVB (k i o : Int) (p l g : List Int) (q : List D) : Prop := ∃ (a b : List Int) (s : Bool), q = [vI a, vI b, .bool s] ∧ a.length ≤ 36 ∧ b.length ≤ 36 ∧ (BackO k i o p l g → a.all fixOk = true ∧ (a.length : Int) = i ∧ b.length = p.length)
theorem VVB.mk {k i o : Int} {p l g : List Int} {a b : List Int} {s : Bool} (h : a.length ≤ 36) (h' : b.length ≤ 36) (h2 : BackO k i o p l g → a.all fixOk = true ∧ (a.length : Int) = i ∧ b.length = p.length) : VVB k i o p l g [vI a, vI b, .bool s] := ⟨a, b, s, rfl, h, h', h2⟩

theorem L_s_OpBackward {k i o : Int} {p l g : List Int} (hp : Sm p) (hl : Sm l) (hg : Sm g) : ∃ (r t : List Int) (s : Bool), (Pr s_OpBackward [.int k, .int i, .int o, vI p, vI l, vI g] ∧ G s_OpBackward [.int k, .int i, .int o, vI p, vI l, vI g] = [vI r, vI t, .bool s]) ∧ r.length ≤ 36 ∧ t.length ≤ 36 ∧ (BackO k i o p l g → r.all fixOk = true ∧ (r.length : Int) = i ∧ t.length = p.length) := by
  have := g_s_OpBackward (ds := [.int k, .int i, .int o, vI p, vI l, vI g]) (Q := VVB k i o p l g) (by
    unfold t_s_OpBackward
    simp only [wp_ask, wp_need, den_var, denL_cons, denL_nil, nth_zero, nth_succ]
    simp [L_s_OpOk hp, L_s_VecOk hl, L_s_VecOk hg]
    refine ⟨?_, ?_, ?_, ?_⟩
    · cases opOk ⟨k, i, o, p⟩ <;> cases vecOk l <;> simp
    · cases opOk ⟨k, i, o, p⟩ <;> cases vecOk l <;> simp
      omega
    · cases opOk ⟨k, i, o, p⟩ <;> cases vecOk l <;> cases vecOk g <;> simp
      omega
    split
    · rename_i hc
      exact VVB.mk (a := []) (b := []) (by simp) (by simp) fun h => absurd h.2.2.2.2 (hc h.1 h.2.1 h.2.2.1 h.2.2.2.1)
    · rename_i hc
      simp only [Classical.not_imp, Decidable.not_not] at hc
      obtain ⟨hm, hv, hlo, hw, hgo⟩ := hc
      have hv' := vecOk_iff.mp hv
      have hw' := vecOk_iff.mp hw
      have hm' := opOk_iff.mp hm
      obtain ⟨m1, m2, m3, m4, m5, m6⟩ := hm'
      simp only at m1 m2 m3 m4 m5 m6
      obtain ⟨r1, s1, e1, b1, f1, g1⟩ := L_s_MatBack (i := o) (o := i) hp hg
      obtain ⟨y1, y2, r2, s2, e2, b2, g2⟩ := L_s_Outer hg hl
      obtain ⟨r3, e3, b3, f3, g3⟩ := L_s_VecMask hl hg
      obtain ⟨r5, s5, e5, b5, f5, g5⟩ := L_s_VecAdd (b := r1) hg (by unfold Sm; omega)
      obtain ⟨z, s6, e6, _⟩ := L_s_VecDot hg hl
      have g2 := g2 hw hv
      have hgl : ((g.length * l.length : Nat) : Int) = i * o := by
        rw [Int.natCast_mul, hgo, hlo, Int.mul_comm]
      by_cases k2 : k = 2
      · rw [opSize_p ⟨m2, m3⟩, if_neg (by omega), if_pos k2] at m5
        simp [-List.all_eq_true, k2]
        exact ⟨by omega, .mk (by omega) (by omega) fun _ => ⟨hw'.2, by omega, by omega⟩⟩
      by_cases k3 : k = 3
      · rw [opSize_p ⟨m2, m3⟩, if_neg (by omega), if_neg k2, if_neg (by omega)] at m5
        simp [k3, e3]
        exact VVB.mk (b := []) (by omega) (by simp) fun _ => ⟨f3, by rw [g3 ⟨hv, hw, by omega⟩]; exact hlo, by simp; omega⟩
      by_cases k4 : k = 4
      · rw [opSize_p ⟨m2, m3⟩, if_neg (by omega), if_neg k2, if_pos k4] at m5
        have h1 : p.length = 1 := by omega
        obtain ⟨x, hx⟩ := at_some (l := p) (n := 0) (by omega)
        obtain ⟨r4, s4, e4, b4, f4, g4⟩ := L_s_VecScale (k := x) hg
        have hxo : fixOk x = true := List.all_eq_true.mp m6 x (List.mem_of_getElem? hx)
        simp [-getElem?_pos, k4, h1, hx, e4, e6, mk1]
        exact VVB.mk (b := [z]) (by omega) (by simp) fun _ => ⟨f4, by rw [g4 ⟨hw, hxo⟩]; omega, by simp; omega⟩
      by_cases k1 : k = 1
      · have hmat := opOk_mat hm (.inl k1)
        have hr1 := g1 ⟨hmat, hw, hgo⟩
        rw [opSize_p ⟨m2, m3⟩, if_pos (by omega)] at m5
        simp [k1, e1, e2]
        exact .mk (by omega) b2 fun _ => ⟨f1, by omega, by omega⟩
      · have hmat := opOk_mat hm (.inr (by omega))
        have hr1 := g1 ⟨hmat, hw, hgo⟩
        have hr5 := g5 ⟨hw, vecOk_iff.mpr ⟨by omega, f1⟩, by omega⟩
        rw [opSize_p ⟨m2, m3⟩, if_pos (by omega)] at m5
        simp [k1, k2, k3, k4, e1, e2, e5]
        exact ⟨by cases s1 <;> cases s2 <;> simp, .mk (by omega) b2 fun _ => ⟨f5, by omega, by omega⟩⟩)
  obtain ⟨h1, r, t, s, h2, h3⟩ := this
  exact ⟨r, t, s, ⟨h1, h2⟩, h3⟩

def FitFrom (l : List OpS) (k : Nat) (r : List (List Int)) : Prop := ∀ (i : Nat) (o : OpS) (y : List Int), k ≤ i → l[i]? = some o → r[i]? = some y → y.length = o.p.length
/-- What a backward run begins with. -/
def BackQ (l : List OpS) (x : List (List Int)) (g : List Int) : Prop := ModelP l ∧ InR l l.length x ∧ vecOk g = true ∧ (g.length : Int) = outOf l
def RVB (l : List OpS) (x : List (List Int)) (g : List Int) (q : List D) : Prop := ∃ (r : List (List Int)) (v : List Int) (b : Bool), q = [vR r, vI v, .bool b] ∧ r.length = l.length ∧ Al 1048576 r ∧ (BackQ l x g → FitFrom l 0 r)
/-- What the next operation down gives. -/
def outAt (l : List OpS) (k : Nat) : Int := if k = 0 then inOf l else (l.getD (k - 1) default).o
def IB (l : List OpS) (x : List (List Int)) (g : List Int) (k : Nat) (vs : List D) : Prop := ∃ (b : Bool) (v : List Int) (r : List (List Int)), vs = [.int ((k : Int) - 1), .bool b, vI v, vR r] ∧ (Sm v ∧ r.length = l.length ∧ Al 1048576 r ∧ (BackQ l x g → FitFrom l k r ∧ v.all fixOk = true ∧ (v.length : Int) = outAt l k)) ∧ k ≤ l.length
theorem vR_rep {n : Nat} : D.sl (List.replicate n [D.sl []]) = vR (List.replicate n []) := by simp [vR, vI]
theorem outAt_top {l : List OpS} (h : 1 ≤ l.length) : outAt l l.length = outOf l := by
  unfold outAt outOf
  rw [if_neg (by omega)]
theorem outAt_in {l : List OpS} (h : ModelP l) {k : Nat} {o : OpS} (ho : l[k]? = some o) : outAt l k = o.i := by
  unfold outAt
  split
  · rename_i h0
    subst h0
    unfold inOf
    rw [getD_at ho]
  · obtain ⟨y, hy⟩ := at_some (l := l) (n := k - 1) (by have := lt_of_at0 ho; omega)
    rw [getD_at hy]
    exact (h.2.2 (k - 1) y o hy (by rw [show k - 1 + 1 = k by omega]; exact ho)).symm
where
  lt_of_at0 {α : Type} {l : List α} {j : Nat} {x : α} (hx : l[j]? = some x) : j < l.length := by
    rcases Nat.lt_or_ge j l.length with h | h
    · exact h
    · simp [List.getElem?_eq_none h] at hx
theorem outAt_succ {l : List OpS} {k : Nat} {o : OpS} (ho : l[k]? = some o) : outAt l (k + 1) = o.o := by
  unfold outAt
  rw [if_neg (by omega), show k + 1 - 1 = k by omega, getD_at ho]

theorem L_s_l7Back {l : List OpS} {x : List (List Int)} {g : List Int} (h : Mo l) (hx : x.length = l.length + 1 ∧ Al 1048576 x) (hg : Sm g) : ∃ (r : List (List Int)) (v : List Int) (s : Bool), (Pr s_l7Back [vO l, vR x, vI g] ∧ G s_l7Back [vO l, vR x, vI g] = [vR r, vI v, .bool s]) ∧ r.length = l.length ∧ Al 1048576 r ∧ (BackQ l x g → FitFrom l 0 r) := by
  have := g_s_l7Back (ds := [vO l, vR x, vI g]) (Q := RVB l x g) (by
    unfold t_s_l7Back
    have hl := h.1
    unfold Sm at hl
    simp
    refine ⟨by omega, ?_⟩
    refine wp_loop (IB l x g) rfl l.length ⟨false, g, List.replicate l.length [], by simp [vR_rep, w64 (n := (l.length : Int) - 1) (by omega) (by omega)], ⟨hg, by simp, ?_, ?_⟩, by omega⟩ ?_
    · intro q hq
      cases List.eq_of_mem_replicate hq
      simp
    · intro hb
      refine ⟨fun i o y hi ho hy => ?_, (vecOk_iff.mp hb.2.2.1).2, ?_⟩
      · rw [List.getElem?_eq_none (by omega)] at ho
        cases ho
      · rw [outAt_top hb.1.1.1]
        exact hb.2.2.2
    rintro k _ ⟨s, v, r, rfl, ⟨hv, hr, ha, hfit⟩, hk⟩
    cases k with
    | zero =>
      simp
      exact ⟨r, v, s, rfl, hr, ha, fun hb => (hfit hb).1⟩
    | succ k =>
      have hk1 : ((k + 1 : Nat) : Int) - 1 = (k : Int) := by omega
      obtain ⟨y, hy⟩ := at_some (l := l) (n := k) (by omega)
      obtain ⟨z, hz⟩ := at_some (l := x) (n := k) (by omega)
      obtain ⟨w, t, u, e, b, b', c⟩ := L_s_OpBackward (k := y.k) (i := y.i) (o := y.o) (h.at hy) (hx.2.at hz) hv
      rw [hk1]
      simp [-getElem?_pos, cel_vO0 hy, cel_vO1 hy, cel_vO2 hy, cel_vO3 hy, cel_vR hz, e, vR_set, hr, hx.1]
      have hw : IntKind.wrap .i64 ((k : Int) - 1) = (k : Int) - 1 := w64 (by omega) (by omega)
      rw [hw]
      refine ⟨by omega, by omega, by omega, k, by omega, _, _, _, rfl, ⟨by unfold Sm; omega, by simp [hr], mem_set' ha (by omega), fun hb => ?_⟩, by omega⟩
      obtain ⟨h1, h2, h3⟩ := hfit hb
      have hyo := hb.1.2.1 y (List.mem_of_getElem? hy)
      have hyo' := opOk_iff.mp hyo
      have hz' := hb.2.1 k z (by omega) hz
      rw [outAt_succ hy] at h3
      have hc := c ⟨hyo, hz'.1, hz'.2.1 y hy, vecOk_iff.mpr ⟨by omega, h2⟩, h3⟩
      refine ⟨fun i o' y' hi ho' hy' => ?_, hc.1, by rw [outAt_in hb.1 hy]; exact hc.2.1⟩
      rw [List.getElem?_set] at hy'
      by_cases hik : k = i
      · subst hik
        rw [if_pos rfl, if_pos (by omega)] at hy'
        rw [hy] at ho'
        cases ho'
        cases hy'
        exact hc.2.2
      · rw [if_neg hik] at hy'
        exact h1 i o' y' (by omega) ho' hy')
  obtain ⟨h1, r, v, b, h2, h3⟩ := this
  exact ⟨r, v, b, ⟨h1, h2⟩, h3⟩

end Go.Sx
