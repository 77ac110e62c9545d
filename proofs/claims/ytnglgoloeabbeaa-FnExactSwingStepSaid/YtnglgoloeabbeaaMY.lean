/-
  The machine, part Y: trees read plainly; a table of functions, each with its tree, and their summaries.
-/
import Derived.Test.YtnglgoloeabbeaaMX
namespace Go.Sx
open Go Go.RowKit
set_option linter.unusedSimpArgs false
set_option linter.unusedVariables false

/-! ### A tree, read as what has to hold -/

section
variable (Γ : Nat → List D → List D) (pre : Nat → List D → Prop) (Q : List D → Prop)

/-- 'Q' of what is returned; a loop by what holds at each of its rounds, with a number that falls. -/
def wpT (H : List (List D → Prop)) (ρ : List D) : T → Prop
  | .no _ => False
  | .ret es => Q (denL Γ ρ es)
  | .ite c a b => if (den Γ ρ c).b = true then wpT H ρ a else wpT H ρ b
  | .need c t => (den Γ ρ c).b = true ∧ wpT H ρ t
  | .ask g f args t => ((den Γ ρ g).b = true → pre f (denL Γ ρ args)) ∧ wpT H ρ t
  | .loop nv init body => nv = ρ.length ∧ ∃ I : Nat → List D → Prop, (∃ k, I k (denL Γ ρ init)) ∧ ∀ k vs, I k vs → wpT ((fun vs' => ∃ k', k' < k ∧ I k' vs') :: H) (ρ ++ vs) body
  | .again lvl es => match H[lvl]? with
    | some h => h (denL Γ ρ es)
    | none => False
end

theorem wpT_ev {Γ : Nat → List D → List D} {pre : Nat → List D → Prop} {Q : List D → Prop} : ∀ (t : T) (H : List (List D → Prop)) (ρ : List D) (stk : List (Nat × T)), wpT Γ pre Q H ρ t →
    (∀ (i : Nat) (h : List D → Prop), H[i]? = some h → ∃ nv body r, stk.drop i = (nv, body) :: r ∧ nv ≤ ρ.length ∧ ∀ vs, h vs → ∃ n, ev Γ pre n (stk.drop i) (ρ.take nv ++ vs) body Q) → ∃ n, ev Γ pre n stk ρ t Q
  | .no _, H, ρ, stk, h, _ => h.elim
  | .ret es, H, ρ, stk, h, _ => ⟨0, by unfold ev; exact h⟩
  | .ite c a b, H, ρ, stk, h, hH => by
    simp only [wpT] at h
    split at h
    · rename_i hc
      obtain ⟨n, hn⟩ := wpT_ev a H ρ stk h hH
      exact ⟨n, by unfold ev; rw [if_pos hc]; exact hn⟩
    · rename_i hc
      obtain ⟨n, hn⟩ := wpT_ev b H ρ stk h hH
      exact ⟨n, by unfold ev; rw [if_neg hc]; exact hn⟩
  | .need c t, H, ρ, stk, h, hH => by
    simp only [wpT] at h
    obtain ⟨n, hn⟩ := wpT_ev t H ρ stk h.2 hH
    exact ⟨n, by unfold ev; exact ⟨h.1, hn⟩⟩
  | .ask g f args t, H, ρ, stk, h, hH => by
    simp only [wpT] at h
    obtain ⟨n, hn⟩ := wpT_ev t H ρ stk h.2 hH
    exact ⟨n, by unfold ev; exact ⟨h.1, hn⟩⟩
  | .again lvl es, H, ρ, stk, h, hH => by
    simp only [wpT] at h
    split at h
    · rename_i hh hl
      obtain ⟨nv, body, r, h1, h2, h3⟩ := hH lvl hh hl
      obtain ⟨n, hn⟩ := h3 _ h
      refine ⟨n + 1, ?_⟩
      unfold ev
      simp only [h1]
      rw [h1] at hn
      exact hn
    · exact h.elim
  | .loop nv init body, H, ρ, stk, h, hH => by
    simp only [wpT] at h
    obtain ⟨hnv, I, ⟨k, hk⟩, hstep⟩ := h
    have key : ∀ k vs, I k vs → ∃ n, ev Γ pre n ((nv, body) :: stk) (ρ ++ vs) body Q := by
      intro k
      induction k using Nat.strongRecOn with
      | _ k ih =>
        intro vs hvs
        refine wpT_ev body _ (ρ ++ vs) ((nv, body) :: stk) (hstep k vs hvs) fun i h hi => ?_
        cases i with
        | zero =>
          simp only [List.getElem?_cons_zero, Option.some.injEq] at hi
          subst hi
          refine ⟨nv, body, stk, rfl, by rw [List.length_append]; omega, fun vs' hvs' => ?_⟩
          obtain ⟨k', hlt, hk'⟩ := hvs'
          have : (ρ ++ vs).take nv = ρ := by rw [hnv]; exact List.take_left
          rw [this]
          exact ih k' hlt vs' hk'
        | succ i =>
          simp only [List.getElem?_cons_succ] at hi
          obtain ⟨nv', body', r, h1, h2, h3⟩ := hH i h hi
          refine ⟨nv', body', r, h1, by rw [List.length_append]; omega, fun vs' hvs' => ?_⟩
          obtain ⟨n, hn⟩ := h3 vs' hvs'
          refine ⟨n, ?_⟩
          have : (ρ ++ vs).take nv' = ρ.take nv' := by rw [List.take_append_of_le_length h2]
          rw [this]
          exact hn
    obtain ⟨n, hn⟩ := key k _ hk
    exact ⟨n, by unfold ev; exact hn⟩

theorem ev_out {Γ : Nat → List D → List D} {pre : Nat → List D → Prop} {Q Q' : List D → Prop} : ∀ (n : Nat) (t : T) (ρ : List D) (stk : List (Nat × T)), ev Γ pre n stk ρ t Q → ∃ out, Q out ∧ ev Γ pre n stk ρ t (fun o => o = out) := by
  intro n
  induction n using Nat.strongRecOn with
  | _ n ihn =>
  intro t
  induction t with
  | no w => intro ρ stk h; unfold ev at h; exact h.elim
  | ret es => intro ρ stk h; unfold ev at h; exact ⟨_, h, by unfold ev; rfl⟩
  | ite c a b iha ihb =>
    intro ρ stk h
    unfold ev at h
    split at h
    · rename_i hc
      obtain ⟨out, h1, h2⟩ := iha ρ stk h
      exact ⟨out, h1, by unfold ev; rw [if_pos hc]; exact h2⟩
    · rename_i hc
      obtain ⟨out, h1, h2⟩ := ihb ρ stk h
      exact ⟨out, h1, by unfold ev; rw [if_neg hc]; exact h2⟩
  | need c t ih =>
    intro ρ stk h
    unfold ev at h
    obtain ⟨out, h1, h2⟩ := ih ρ stk h.2
    exact ⟨out, h1, by unfold ev; exact ⟨h.1, h2⟩⟩
  | ask g f args t ih =>
    intro ρ stk h
    unfold ev at h
    obtain ⟨out, h1, h2⟩ := ih ρ stk h.2
    exact ⟨out, h1, by unfold ev; exact ⟨h.1, h2⟩⟩
  | loop nv init body ih =>
    intro ρ stk h
    unfold ev at h
    obtain ⟨out, h1, h2⟩ := ih _ _ h
    exact ⟨out, h1, by unfold ev; exact h2⟩
  | again lvl es =>
    intro ρ stk h
    unfold ev at h
    split at h
    · rename_i n' nv body r hd
      obtain ⟨out, h1, h2⟩ := ihn n' (Nat.lt_succ_self n') body _ _ h
      exact ⟨out, h1, by unfold ev; simp only [hd]; exact h2⟩
    · exact h.elim

theorem ev_one {Γ : Nat → List D → List D} {pre : Nat → List D → Prop} {Q Q' : List D → Prop} : ∀ (n m : Nat) (t : T) (ρ : List D) (stk : List (Nat × T)), ev Γ pre n stk ρ t Q → ev Γ pre m stk ρ t Q' → ∃ out, Q out ∧ Q' out := by
  intro n
  induction n using Nat.strongRecOn with
  | _ n ihn =>
  intro m t
  induction t generalizing m with
  | no w => intro ρ stk h; unfold ev at h; exact h.elim
  | ret es => intro ρ stk h h'; unfold ev at h h'; exact ⟨_, h, h'⟩
  | ite c a b iha ihb =>
    intro ρ stk h h'
    unfold ev at h h'
    split at h
    · rename_i hc
      rw [if_pos hc] at h'
      exact iha m ρ stk h h'
    · rename_i hc
      rw [if_neg hc] at h'
      exact ihb m ρ stk h h'
  | need c t ih =>
    intro ρ stk h h'
    unfold ev at h h'
    exact ih m ρ stk h.2 h'.2
  | ask g f args t ih =>
    intro ρ stk h h'
    unfold ev at h h'
    exact ih m ρ stk h.2 h'.2
  | loop nv init body ih =>
    intro ρ stk h h'
    unfold ev at h h'
    exact ih m _ _ h h'
  | again lvl es =>
    intro ρ stk h h'
    unfold ev at h h'
    split at h
    · rename_i n' nv body r hd
      split at h'
      · rename_i m' nv' body' r' hd'
        rw [hd] at hd'
        simp only [List.cons.injEq, Prod.mk.injEq] at hd'
        obtain ⟨⟨rfl, rfl⟩, rfl⟩ := hd'
        exact ihn n' (Nat.lt_succ_self n') m' body _ _ h h'
      · exact h'.elim
    · exact h.elim

/-! ### A table of functions -/

structure Fd where
  f : Nat
  sg : Sig
  heads : List Head
  peel : List Nat
  clean : List Nat
  fuel : Nat
  t : T

def sigsOf : List Fd → Nat → Option Sig
  | [], _ => none
  | d :: r, f => if d.f == f then some d.sg else sigsOf r f

def ends (Γ : Nat → List D → List D) (pre : Nat → List D → Prop) (t : T) (ds : List D) : Prop := ∃ out n, ev Γ pre n [] ds t fun o => o = out
open Classical in
noncomputable def sem (Γ : Nat → List D → List D) (pre : Nat → List D → Prop) (t : T) (ds : List D) : List D := if h : ends Γ pre t ds then h.choose else []

theorem sem_ev {Γ : Nat → List D → List D} {pre : Nat → List D → Prop} {t : T} {ds : List D} (h : ends Γ pre t ds) : ∃ n, ev Γ pre n [] ds t fun o => o = sem Γ pre t ds := by
  unfold sem
  rw [dif_pos h]
  exact h.choose_spec

theorem sem_wp {Γ : Nat → List D → List D} {pre : Nat → List D → Prop} {t : T} {ds : List D} {Q : List D → Prop} (h : wpT Γ pre Q [] ds t) : ends Γ pre t ds ∧ Q (sem Γ pre t ds) := by
  obtain ⟨n, hn⟩ := wpT_ev t [] ds [] h fun i h hi => by simp at hi
  obtain ⟨out, h1, h2⟩ := ev_out (Q' := Q) n t ds [] hn
  have he : ends Γ pre t ds := ⟨out, n, h2⟩
  obtain ⟨m, hm⟩ := sem_ev he
  obtain ⟨o, ho, e⟩ := ev_one n m t ds [] hn hm
  exact ⟨he, by rw [← e]; exact ho⟩

noncomputable def Tab : List Fd → (Nat → List D → List D) × (Nat → List D → Prop)
  | [] => (fun _ _ => [], fun _ _ => False)
  | d :: r => (fun f ds => if f = d.f then sem (Tab r).1 (Tab r).2 d.t ds else (Tab r).1 f ds, fun f ds => if f = d.f then ends (Tab r).1 (Tab r).2 d.t ds else (Tab r).2 f ds)

/-- Each tree is what the machine makes of the function. -/
inductive TabOk (P : Program) : List Fd → Prop
  | nil : TabOk P []
  | cons {d : Fd} {r : List Fd} {fn : Func} : TabOk P r → P.funcs[d.f]? = some fn → (fn.name == "runtime.NumGoroutine") = false → fn.body.isNone = false → symFn P (sigsOf r) fn d.sg d.heads d.peel d.clean d.fuel = d.t → TabOk P (d :: r)

theorem tab_ok {P : Program} (hmix : P.follows .mixedOrders = true) {l : List Fd} (h : TabOk P l) : ∀ f sg, sigsOf l f = some sg → SummOk P [] (fun _ => True) f sg ((Tab l).1 f) ((Tab l).2 f) := by
  induction h with
  | nil => intro f sg h; simp [sigsOf] at h
  | @cons d r fn _ h1 h2 h3 h4 ih =>
    intro f sg hs
    simp only [sigsOf] at hs
    by_cases hf : d.f = f
    · subst hf
      simp only [beq_self_eq_true, if_true, Option.some.injEq] at hs
      subst hs
      have e1 : (Tab (d :: r)).1 d.f = sem (Tab r).1 (Tab r).2 d.t := by funext ds; simp [Tab]
      have e2 : (Tab (d :: r)).2 d.f = ends (Tab r).1 (Tab r).2 d.t := by funext ds; simp [Tab]
      rw [e1, e2]
      refine fn_ok (heads := d.heads) (peel := d.peel) (clean := d.clean) (fuel := d.fuel) hmix h1 h2 h3 ih (fun _ _ _ h => h) fun ds hds => ?_
      rw [h4]
      exact sem_ev hds
    · have hne : (d.f == f) = false := by simp [hf]
      rw [hne] at hs
      simp only [Bool.false_eq_true, if_false] at hs
      have e1 : (Tab (d :: r)).1 f = (Tab r).1 f := by funext ds; simp [Tab, Ne.symm hf]
      have e2 : (Tab (d :: r)).2 f = (Tab r).2 f := by funext ds; simp [Tab, Ne.symm hf]
      rw [e1, e2]
      exact ih f sg hs

/-! ### The table as one -/

mutual
def E.calls : E → List Nat
  | .app (.call f _) args => f :: E.callsL args
  | .app _ args => E.callsL args
  | _ => []
def E.callsL : List E → List Nat
  | [] => []
  | e :: es => e.calls ++ E.callsL es
end

def T.calls : T → List Nat
  | .no _ => []
  | .ret es => E.callsL es
  | .ite c a b => c.calls ++ (a.calls ++ b.calls)
  | .need c t => c.calls ++ t.calls
  | .ask g f args t => f :: (g.calls ++ (E.callsL args ++ t.calls))
  | .loop _ init body => E.callsL init ++ body.calls
  | .again _ es => E.callsL es

def AgreeOn (Γ Γ' : Nat → List D → List D) (l : List Nat) : Prop := ∀ f ∈ l, Γ f = Γ' f

theorem evalF_agree {Γ Γ' : Nat → List D → List D} {f : F} {ds : List D} (h : ∀ g r, f = .call g r → Γ g = Γ' g) : evalF Γ f ds = evalF Γ' f ds := by
  cases f with
  | call g r => simp only [evalF]; rw [h g r rfl]
  | _ =>
    match ds with
    | [] => rfl
    | [a] => rfl
    | [a, b] => rfl
    | [a, b, c] => rfl
    | [a, b, c, d] => rfl
    | _ :: _ :: _ :: _ :: _ :: _ => rfl

mutual
theorem den_agree {Γ Γ' : Nat → List D → List D} {ρ : List D} : ∀ (e : E), AgreeOn Γ Γ' e.calls → Sx.den Γ ρ e = Sx.den Γ' ρ e
  | .var _, _ | .int _, _ | .bool _, _ | .str _, _ | .nil, _ => rfl
  | .app f args, h => by
    have key : E.callsL args ⊆ (E.app f args).calls := by
      cases f <;> simp only [E.calls] <;> first | exact fun x hx => hx | exact fun x hx => List.mem_cons_of_mem _ hx
    simp only [Sx.den]
    rw [denL_agree args fun g hg => h g (key hg)]
    refine evalF_agree fun g r e => ?_
    subst e
    exact h g (by simp [E.calls])
theorem denL_agree {Γ Γ' : Nat → List D → List D} {ρ : List D} : ∀ (es : List E), AgreeOn Γ Γ' (E.callsL es) → denL Γ ρ es = denL Γ' ρ es
  | [], _ => rfl
  | e :: es, h => by
    simp only [denL]
    rw [den_agree e fun g hg => h g (by simp [E.callsL, hg]), denL_agree es fun g hg => h g (by simp [E.callsL, hg])]
end

theorem ev_agree {Γ Γ' : Nat → List D → List D} {pre pre' : Nat → List D → Prop} {Q : List D → Prop} : ∀ (n : Nat) (t : T) (ρ : List D) (stk : List (Nat × T)), (∀ f ∈ t.calls, Γ f = Γ' f ∧ pre f = pre' f) → (∀ x ∈ stk, ∀ f ∈ x.2.calls, Γ f = Γ' f ∧ pre f = pre' f) →
    ev Γ pre n stk ρ t Q → ev Γ' pre' n stk ρ t Q := by
  intro n
  induction n using Nat.strongRecOn with
  | _ n ihn =>
  intro t
  induction t with
  | no w => intro ρ stk _ _ h; unfold ev at h; exact h.elim
  | ret es =>
    intro ρ stk h _ he
    unfold ev at he ⊢
    rw [← denL_agree es fun f hf => (h f hf).1]
    exact he
  | ite c a b iha ihb =>
    intro ρ stk h hs he
    unfold ev at he ⊢
    rw [← den_agree c fun f hf => (h f (by simp [T.calls, hf])).1]
    split at he
    · rename_i hc
      rw [if_pos hc]
      exact iha ρ stk (fun f hf => h f (by simp [T.calls, hf])) hs he
    · rename_i hc
      rw [if_neg hc]
      exact ihb ρ stk (fun f hf => h f (by simp [T.calls, hf])) hs he
  | need c t ih =>
    intro ρ stk h hs he
    unfold ev at he ⊢
    rw [← den_agree c fun f hf => (h f (by simp [T.calls, hf])).1]
    exact ⟨he.1, ih ρ stk (fun f hf => h f (by simp [T.calls, hf])) hs he.2⟩
  | ask g f0 args t ih =>
    intro ρ stk h hs he
    unfold ev at he ⊢
    rw [← den_agree g fun f hf => (h f (by simp [T.calls, hf])).1, ← denL_agree args fun f hf => (h f (by simp [T.calls, hf])).1, ← (h f0 (by simp [T.calls])).2]
    exact ⟨he.1, ih ρ stk (fun f hf => h f (by simp [T.calls, hf])) hs he.2⟩
  | loop nv init body ih =>
    intro ρ stk h hs he
    unfold ev at he ⊢
    rw [← denL_agree init fun f hf => (h f (by simp [T.calls, hf])).1]
    refine ih _ _ (fun f hf => h f (by simp [T.calls, hf])) (fun x hx f hf => ?_) he
    rcases List.mem_cons.1 hx with rfl | hx
    · exact h f (by simp [T.calls, hf])
    · exact hs x hx f hf
  | again lvl es =>
    intro ρ stk h hs he
    unfold ev at he
    split at he
    · rename_i n' nv body r hd
      unfold ev
      simp only [hd]
      rw [← denL_agree es fun f hf => (h f hf).1]
      have hmem : ∀ x ∈ (nv, body) :: r, x ∈ stk := fun x hx => List.mem_of_mem_drop (hd ▸ hx)
      exact ihn n' (Nat.lt_succ_self n') body _ _ (fun f hf => hs _ (hmem _ (List.mem_cons_self ..)) f hf) (fun x hx f hf => hs x (hmem x hx) f hf) he
    · exact he.elim

def hasAll (l m : List Nat) : Bool := l.all fun x => m.contains x
/-- Each tree calls but what stands below it; no function stands twice. -/
def below : List Fd → Bool
  | [] => true
  | d :: r => hasAll d.t.calls (r.map (·.f)) && !(r.map (·.f)).contains d.f && below r

theorem below_calls : ∀ {l : List Fd}, below l = true → ∀ {d : Fd}, d ∈ l → ∀ f ∈ d.t.calls, f ∈ l.map (·.f)
  | [], _, _, hd => nomatch hd
  | x :: r, hb, d, hd => by
    simp only [below, Bool.and_eq_true] at hb
    intro f hf
    rcases List.mem_cons.1 hd with rfl | hd
    · have h1 := hb.1.1
      simp only [hasAll, List.all_eq_true, List.contains_eq_mem, decide_eq_true_eq] at h1
      exact List.mem_cons_of_mem _ (h1 f hf)
    · exact List.mem_cons_of_mem _ (below_calls hb.2 hd f hf)

theorem tab_at : ∀ {l : List Fd}, below l = true → ∀ {d : Fd}, d ∈ l → (Tab l).1 d.f = sem (Tab l).1 (Tab l).2 d.t ∧ (Tab l).2 d.f = ends (Tab l).1 (Tab l).2 d.t
  | [], _, _, hd => nomatch hd
  | x :: r, hb, d, hd => by
    simp only [below, Bool.and_eq_true, Bool.not_eq_true', List.contains_eq_mem, decide_eq_false_iff_not] at hb
    obtain ⟨⟨h1, h2⟩, h3⟩ := hb
    have up : ∀ f, f ∈ r.map (·.f) → (Tab (x :: r)).1 f = (Tab r).1 f ∧ (Tab (x :: r)).2 f = (Tab r).2 f := fun f hf => by
      have hne : f ≠ x.f := fun e => h2 (e ▸ hf)
      exact ⟨by funext ds; simp [Tab, hne], by funext ds; simp [Tab, hne]⟩
    have both : ∀ (t : T), (∀ f ∈ t.calls, f ∈ r.map (·.f)) → sem (Tab r).1 (Tab r).2 t = sem (Tab (x :: r)).1 (Tab (x :: r)).2 t ∧ ends (Tab r).1 (Tab r).2 t = ends (Tab (x :: r)).1 (Tab (x :: r)).2 t := fun t ht => by
      have e : ∀ ds out n, ev (Tab r).1 (Tab r).2 n [] ds t (fun o => o = out) ↔ ev (Tab (x :: r)).1 (Tab (x :: r)).2 n [] ds t (fun o => o = out) := fun ds out n =>
        ⟨ev_agree n t ds [] (fun f hf => ⟨(up f (ht f hf)).1.symm, (up f (ht f hf)).2.symm⟩) (fun _ h => nomatch h), ev_agree n t ds [] (fun f hf => up f (ht f hf)) (fun _ h => nomatch h)⟩
      have e2 : ends (Tab r).1 (Tab r).2 t = ends (Tab (x :: r)).1 (Tab (x :: r)).2 t := by
        funext ds
        unfold ends
        exact propext ⟨fun ⟨out, n, h⟩ => ⟨out, n, (e ds out n).1 h⟩, fun ⟨out, n, h⟩ => ⟨out, n, (e ds out n).2 h⟩⟩
      refine ⟨?_, e2⟩
      funext ds
      by_cases hd : ends (Tab r).1 (Tab r).2 t ds
      · obtain ⟨n, hn⟩ := sem_ev hd
        have hd' : ends (Tab (x :: r)).1 (Tab (x :: r)).2 t ds := by rw [← e2]; exact hd
        obtain ⟨m, hm⟩ := sem_ev hd'
        obtain ⟨o, ho, ho'⟩ := ev_one n m t ds [] ((e ds _ n).1 hn) hm
        rw [← ho, ho']
      · have hd' : ¬ ends (Tab (x :: r)).1 (Tab (x :: r)).2 t ds := by rw [← e2]; exact hd
        unfold sem
        rw [dif_neg hd, dif_neg hd']
    rcases List.mem_cons.1 hd with rfl | hd
    · obtain ⟨e1, e2⟩ := both d.t fun f hf => by
        simp only [hasAll, List.all_eq_true, List.contains_eq_mem, decide_eq_true_eq] at h1
        exact h1 f hf
      rw [← e1, ← e2]
      exact ⟨by funext ds; simp [Tab], by funext ds; simp [Tab]⟩
    · obtain ⟨e1, e2⟩ := tab_at h3 hd
      have hm : d.f ∈ r.map (·.f) := List.mem_map_of_mem hd
      obtain ⟨u1, u2⟩ := up d.f hm
      have hcalls : ∀ f ∈ d.t.calls, f ∈ r.map (·.f) := by
        exact below_calls h3 hd
      obtain ⟨b1, b2⟩ := both d.t hcalls
      rw [u1, u2, e1, e2, b1, b2]
      exact ⟨rfl, rfl⟩

end Go.Sx
