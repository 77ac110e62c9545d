/-
  The machine, part V: the run of a function's code.
-/
import Derived.Test.YtnglgoloeabbeaaMU
namespace Go.Sx
open Go Go.RowKit
set_option linter.unusedSimpArgs false
set_option linter.unusedVariables false

section
variable {P : Program} {B : Base} {sigs : Nat → Option Sig} {clean : List Nat} {pre : Nat → List D → Prop} {G : List Nat} {Γ : Nat → List D → List D} {ρ : List D} {X : Nat → Prop} {ops : Array Oper} {Q : Exit → Act → World → Prop}

theorem At.drawn {sl : Nat → AV} {hp : Nat → Option Blk} {a : Act} {w : World} (h : At B Γ ρ X sl hp a w) (n : Nat) : At B Γ ρ X sl hp a { w with drawn := n } := by
  obtain ⟨c, rfl, e1, e2, e3, e4, s⟩ := h
  refine ⟨{ c with w := { c.w with drawn := n } }, rfl, e1, e2, e3, e4, ?_⟩
  have hstep : Step c { c with w := { c.w with drawn := n } } [] := {
    foreign := rfl
    given := rfl
    Γ := rfl
    ρ := rfl
    size := Nat.le_refl _
    same := fun _ _ => ⟨rfl, rfl⟩
    mem := fun _ _ _ => rfl
    gens := fun _ hb => nomatch hb
    hard := fun _ hb => nomatch hb
    row := fun _ hb => nomatch hb
    box := fun _ hb => nomatch hb }
  exact s.step hstep rfl rfl (fun t => .inl ⟨rfl, rfl⟩) (fun _ hb => nomatch hb) (fun _ hb => nomatch hb) (fun _ _ _ _ hb => nomatch hb) ⟨rfl, rfl, rfl⟩

theorem region_ok (S : Setting P G B Γ sigs pre) (hX : ∀ k ∈ G, X k) (hmix : P.follows .mixedOrders = true) {id : Nat} {draw : Bool} {s s' : St} {as : List Ask} (h : runRegion P sigs clean B.nt ops draw s = some (s', as))
    (hn : ∀ y ∈ as, (Sx.den Γ ρ y.g).b = true → NeedAt pre Γ ρ y.n) {a : Act} {w : World} (hat : At B Γ ρ X s.slot s.blk a w) (hQ : ∀ a' w', At B Γ ρ X s'.slot s'.blk a' w' → Q .normal a' w') : (Code.region id ops draw).wp P Q a w := by
  unfold runRegion at h
  split at h
  · simp at h
  rename_i s1 as1 ls hr
  split at h
  case isFalse => simp at h
  rename_i hck
  simp only [Option.some.injEq, Prod.mk.injEq] at h
  obtain ⟨rfl, rfl⟩ := h
  obtain ⟨l, h1, h2, h3, h4, h5⟩ := runOps_ran hr
  have hn' : ∀ x ∈ l, ∀ y ∈ x.2.2.1, (Sx.den Γ ρ y.g).b = true → NeedAt pre Γ ρ y.n := fun x hx y hy => hn y (by
    rw [h2]
    exact List.mem_flatten.2 ⟨_, List.mem_map_of_mem (f := fun x : Rec => x.2.2.1) hx, hy⟩)
  rw [h4] at hQ
  have hsize : ops.size = l.length := by rw [← Array.length_toList, ← h1, List.length_map]
  cases draw with
  | false =>
    refine wp_region ?_
    rw [List.range_eq_range', hsize]
    exact ops_lex S hX h1 h5 hn' hQ l.length 0 a w (by omega) hat
  | true =>
    simp only [Bool.not_true, Bool.false_or, Bool.and_eq_true] at hck
    refine wp_region_any hmix ?_
    rw [hsize]
    have hrep : ∀ j, (Array.replicate l.length false).getD j false = false := fun j => by
      rw [Array.getD_eq_getD_getElem?, Array.getElem?_replicate]
      split <;> rfl
    refine ops_any S hX h1 h5 hn' (by rw [← h3]; exact hck.1) hck.2 hQ l.length (Array.replicate l.length false) a _ (by simp) (fun j hj => by rw [hrep] at hj; exact nomatch hj) ?_ ?_
    · exact Nat.le_trans (List.length_filter_le _ _) (by simp)
    · have : Fold (wrOf l) (valOf l) (locV s.slot s.blk) (fun j => (Array.replicate l.length false).getD j false) l.length = locV s.slot s.blk := by
        funext x
        rw [fold_tail (wrOf l) (valOf l) _ (i := 0) (Nat.zero_le _) fun j _ _ hj => by rw [hrep] at hj; exact nomatch hj]
        rfl
      rw [this, slOf_locV, hpOf_locV]
      exact hat.drawn _

/-! ### What is still to be done -/

def Goes (P : Program) (todo : List Item) (Q : Exit → Act → World → Prop) (a : Act) (w : World) : Prop :=
  ∀ (b : Frame) (cs : List Frame), ∃ e a' w', Q e a' w' ∧ Arrives P (lone (b.at a todo) cs w) b [] cs e a' w'

theorem Goes.step {todo todo' : List Item} {a : Act} {w : World} (h : ∀ (b : Frame) (cs : List Frame), step P (lone (b.at a todo) cs w) = .next (lone (b.at a todo') cs w)) (hg : Goes P todo' Q a w) : Goes P todo Q a w := fun b cs => by
  obtain ⟨e, a', w', h1, h2⟩ := hg b cs
  exact ⟨e, a', w', h1, .of_steps (.one (h b cs)) h2⟩

theorem Goes.wp {c : Code} {k : List Item} {a : Act} {w : World} (h : c.wp P (fun e a' w' => e = .normal ∧ Goes P k Q a' w') a w) : Goes P (.code c :: k) Q a w := fun b cs => by
  obtain ⟨e, a', w', ⟨rfl, hg⟩, harr⟩ := h b k cs
  obtain ⟨e2, a2, w2, h1, h2⟩ := hg b cs
  exact ⟨e2, a2, w2, h1, .of_steps harr h2⟩

theorem Goes.ret {k : List Item} {a : Act} {w : World} (h : Q .ret a w) : Goes P (.code .ret :: k) Q a w := fun b cs => ⟨.ret, a, w, h, _, .one step_ret⟩
theorem Goes.done {a : Act} {w : World} (h : Q .normal a w) : Goes P [] Q a w := fun b cs => ⟨.normal, a, w, h, .refl P _⟩

theorem exitTo_suffix {id : Nat} : ∀ {k k' : List Item}, exitTo id k = some k' → k' <:+ k
  | [], k', h => by simp [exitTo] at h
  | x :: k, k', h => by
    cases x with
    | inBlock id' =>
      simp only [exitTo] at h
      split at h
      · simp only [Option.some.injEq] at h
        subst h
        exact List.suffix_cons _ _
      · exact (exitTo_suffix h).trans (List.suffix_cons _ _)
    | _ => exact (exitTo_suffix (by simpa only [exitTo] using h)).trans (List.suffix_cons _ _)

/-! ### Loops that are being gone round -/

inductive Good (P : Program) (sigs : Nat → Option Sig) (fn : Fn) : Nat → List Item → List Lv → List (Nat × T) → Prop
  | nil {N : Nat} {todo : List Item} : Good P sigs fn N todo [] []
  | dead {N : Nat} {todo : List Item} {l : Lv} {lv : List Lv} {body : T} {r : List (Nat × T)} : l.len = none → Good P sigs fn N todo lv r → Good P sigs fn N todo (l :: lv) ((l.nv, body) :: r)
  | alive {N m : Nat} {todo k : List Item} {c : Code} {l : Lv} {lv lv0 : List Lv} {r : List (Nat × T)} : l.len = some k.length → l.nv ≤ N → (Item.inLoop c :: k) <:+ todo → Good P sigs fn l.nv (.inLoop c :: k) lv0 r → Good P sigs fn N todo lv r →
      Good P sigs fn N todo (l :: lv) ((l.nv, sym P sigs fn m (l.nv + l.vars) (l :: lv0) (.code c :: .inLoop c :: k) l.st) :: r)

theorem Good.mono {fn : Fn} {N N' : Nat} {todo todo' : List Item} {lv : List Lv} {r : List (Nat × T)} (h : Good P sigs fn N todo lv r) (hN : N ≤ N') (ht : ∀ c k, (Item.inLoop c :: k) <:+ todo → (Item.inLoop c :: k) <:+ todo') : Good P sigs fn N' todo' lv r := by
  induction h generalizing N' with
  | nil => exact .nil
  | dead h1 _ ih => exact .dead h1 (ih hN ht)
  | alive h1 h2 h3 h4 _ _ ih => exact .alive h1 (Nat.le_trans h2 hN) (ht _ _ h3) h4 (ih hN ht)

theorem Good.leave {fn : Fn} {N : Nat} {todo k' : List Item} {lv : List Lv} {r : List (Nat × T)} (h : Good P sigs fn N todo lv r) (hk : k' <:+ todo) : Good P sigs fn N k' (leave k'.length lv) r := by
  induction h with
  | nil => exact .nil
  | @dead N todo l lv body r h1 _ ih =>
    have : Sx.leave k'.length (l :: lv) = l :: Sx.leave k'.length lv := by simp [Sx.leave, h1]
    rw [this]
    exact .dead h1 (ih hk)
  | @alive N m todo k c l lv lv0 r h1 h2 h3 h4 _ _ ih =>
    by_cases hlt : k.length < k'.length
    · have : Sx.leave k'.length (l :: lv) = l :: Sx.leave k'.length lv := by simp [Sx.leave, h1, hlt]
      rw [this]
      exact .alive h1 h2 (List.suffix_of_suffix_length_le h3 hk (by simp only [List.length_cons]; omega)) h4 (ih hk)
    · have : Sx.leave k'.length (l :: lv) = { l with len := none } :: Sx.leave k'.length lv := by simp [Sx.leave, h1, hlt]
      rw [this]
      exact .dead (l := { l with len := none }) rfl (ih hk)

theorem Good.found {fn : Fn} {N len : Nat} {todo : List Item} {lv : List Lv} {r : List (Nat × T)} (h : Good P sigs fn N todo lv r) : ∀ {j i : Nat} {l : Lv}, findLv len j lv = some (i, l) →
    j ≤ i ∧ ∃ m c k lv0 r', k.length = len ∧ l.len = some k.length ∧ l.nv ≤ N ∧ (Item.inLoop c :: k) <:+ todo ∧ r.drop (i - j) = (l.nv, sym P sigs fn m (l.nv + l.vars) (l :: lv0) (.code c :: .inLoop c :: k) l.st) :: r' ∧ Good P sigs fn l.nv (.inLoop c :: k) lv0 r' := by
  induction h with
  | nil => intro j i l h; simp [findLv] at h
  | @dead N todo l0 lv body r h1 _ ih =>
    intro j i l h
    simp only [findLv, h1] at h
    rw [if_neg (by simp)] at h
    obtain ⟨g1, m, c, k, lv0, r', g2, g3, g4, g5, g6, g7⟩ := ih h
    refine ⟨by omega, m, c, k, lv0, r', g2, g3, g4, g5, ?_, g7⟩
    rw [show i - j = (i - (j + 1)) + 1 from by omega]
    exact g6
  | @alive N m0 todo k0 c0 l0 lv lv1 r h1 h2 h3 h4 _ _ ih =>
    intro j i l h
    simp only [findLv] at h
    split at h
    · rename_i hl
      simp only [Option.some.injEq, Prod.mk.injEq] at h
      obtain ⟨rfl, rfl⟩ := h
      rw [h1] at hl
      have hl := eq_of_beq hl
      simp only [Option.some.injEq] at hl
      exact ⟨Nat.le_refl _, m0, c0, k0, lv1, r, hl, h1, h2, h3, by simp, h4⟩
    · obtain ⟨g1, m, c, k, lv0, r', g2, g3, g4, g5, g6, g7⟩ := ih h
      refine ⟨by omega, m, c, k, lv0, r', g2, g3, g4, g5, ?_, g7⟩
      rw [show i - j = (i - (j + 1)) + 1 from by omega]
      exact g6

theorem ev_wrap {n : Nat} {stk : List (Nat × T)} {Qd : List D → Prop} : ∀ {as : List Ask} {t : T}, ev Γ pre n stk ρ (T.wrap as t) Qd → (∀ y ∈ as, (Sx.den Γ ρ y.g).b = true → NeedAt pre Γ ρ y.n) ∧ ev Γ pre n stk ρ t Qd
  | [], t, h => ⟨(fun _ h => nomatch h), h⟩
  | ⟨g, n0⟩ :: r, t, h => by
    have key : ((Sx.den Γ ρ g).b = true → NeedAt pre Γ ρ n0) ∧ ev Γ pre n stk ρ (T.wrap r t) Qd := by
      unfold T.wrap at h
      split at h
      · rename_i heq; simp at heq
      · rename_i heq
        simp only [List.cons.injEq, Ask.mk.injEq] at heq
        obtain ⟨⟨rfl, rfl⟩, rfl⟩ := heq
        rw [ev] at h
        exact ⟨fun _ => h.1, h.2⟩
      · rename_i heq
        simp only [List.cons.injEq, Ask.mk.injEq] at heq
        obtain ⟨⟨rfl, rfl⟩, rfl⟩ := heq
        rw [ev] at h
        refine ⟨fun hg => ?_, h.2⟩
        have := h.1
        simp only [E.or, E.not, Sx.den, denL, evalF, D.b_bool, hg, Bool.not_true, Bool.false_or] at this
        exact this
      · rename_i heq
        simp only [List.cons.injEq, Ask.mk.injEq] at heq
        obtain ⟨⟨rfl, rfl⟩, rfl⟩ := heq
        rw [ev] at h
        exact h
    obtain ⟨r1, r2⟩ := ev_wrap key.2
    refine ⟨fun y hy => ?_, r2⟩
    rcases List.mem_cons.1 hy with rfl | hy
    · exact key.1
    · exact r1 y hy

theorem retT_form {fn : Fn} {s : St} : (∃ k, retT P fn s = .no k) ∨ ∃ es, retT P fn s = .ret es := by
  unfold retT
  split
  · exact .inl ⟨_, rfl⟩
  · split
    · exact .inl ⟨_, rfl⟩
    · exact .inr ⟨_, rfl⟩

theorem suffix_tail {x : Item} {k todo' : List Item} (hx : ∀ c, x ≠ .inLoop c) (ht : ∀ c k0, (Item.inLoop c :: k0) <:+ k → (Item.inLoop c :: k0) <:+ todo') : ∀ c k0, (Item.inLoop c :: k0) <:+ (x :: k) → (Item.inLoop c :: k0) <:+ todo' := by
  intro c k0 h
  rcases List.suffix_cons_iff.1 h with h | h
  · simp only [List.cons.injEq] at h
    exact absurd h.1.symm (hx c)
  · exact ht c k0 h

theorem sym_ok (S : Setting P G B Γ sigs pre) (hX : ∀ k ∈ G, X k) (hmix : P.follows .mixedOrders = true) {fn : Fn} (hnt : fn.nt = B.nt) (hfix : ∀ y ∈ B.fix, y.1 ∈ fixNames 0 fn.sig.params) {Qd : List D → Prop}
    (hret : ∀ (s : St) (ρ : List D) (a : Act) (w : World) (es : List E), At B Γ ρ X s.slot s.blk a w → retT P fn s = .ret es → Qd (denL Γ ρ es) → Q .ret a w ∧ Q .normal a w) :
    ∀ (n m nv : Nat) (lv : List Lv) (todo : List Item) (s : St) (ρ : List D) (stk : List (Nat × T)) (a : Act) (w : World), ρ.length = nv → Good P sigs fn nv todo lv stk → ev Γ pre n stk ρ (sym P sigs fn m nv lv todo s) Qd →
      At B Γ ρ X s.slot s.blk a w → Goes P todo Q a w := by
  intro n
  induction n using Nat.strongRecOn with
  | _ n ihn =>
  intro m
  induction m with
  | zero => intro nv lv todo s ρ stk a w _ _ h _; simp only [sym] at h; rw [ev] at h; exact h.elim
  | succ m ih =>
    intro nv lv todo s ρ stk a w hρ hgood h hat
    have leaf : ∀ {t : T}, t = retT P fn s → ev Γ pre n stk ρ t Qd → Q .ret a w ∧ Q .normal a w := by
      intro t ht h
      rcases retT_form (P := P) (fn := fn) (s := s) with ⟨k, hk⟩ | ⟨es, hk⟩
      · rw [ht, hk, ev] at h; exact h.elim
      · rw [ht, hk, ev] at h
        exact hret s ρ a w es hat hk h
    have head : ∀ {c : Code} {k todo0 : List Item} {t : T}, (∀ c' k', (Item.inLoop c' :: k') <:+ todo → (Item.inLoop c' :: k') <:+ (.inLoop c :: k)) →
        (t = match fn.heads.find? (fun h => h.key == firstRegion c) with
        | none => .no 3
        | some h => match matchSt (fixNames 0 fn.sig.params) nv h.vars (h.st.shift nv) s with
          | none => .no 4
          | some es => .loop nv es (sym P sigs fn m (nv + h.vars) (⟨some k.length, nv, h.vars, h.st.shift nv⟩ :: lv) (.code c :: .inLoop c :: k) (h.st.shift nv))) →
        ev Γ pre n stk ρ t Qd → Goes P (.code c :: .inLoop c :: k) Q a w := by
      intro c k todo0 t hsuf ht h
      split at ht
      · rw [ht, ev] at h; exact h.elim
      · rename_i hd _
        split at ht
        · rw [ht, ev] at h; exact h.elim
        · rename_i es hm
          rw [ht, ev] at h
          obtain ⟨h1, h2⟩ := matchSt_ok hat (Nat.le_of_eq hρ.symm) hfix hm
          rw [← hρ, List.take_length, hρ] at h2
          refine ih (nv + hd.vars) _ _ _ (ρ ++ denL Γ ρ es) _ a w (by rw [List.length_append, hρ]; congr 1; rw [← h1]; exact (dens_len (c := { Γ := Γ, given := fun _ => Go.undef, ρ := ρ, hp := fun _ => none, L := ⟨fun _ => ⟨0, Go.undef, []⟩, fun _ => False⟩, w := w }))) ?_ h h2
          refine .alive (l := ⟨some k.length, nv, hd.vars, hd.st.shift nv⟩) (c := c) rfl (Nat.le_add_right _ _) (List.suffix_cons _ _) (hgood.mono (Nat.le_refl _) hsuf) (hgood.mono (Nat.le_add_right _ _) fun c' k' hc => (hsuf c' k' hc).trans (List.suffix_cons _ _))
    cases todo with
    | nil =>
      simp only [sym] at h
      exact .done (leaf rfl h).2
    | cons x k =>
      cases x with
      | code c =>
        have hk : ∀ {y : Code} {c' : Code} {k' : List Item}, (Item.inLoop c' :: k') <:+ (.code y :: k) → (Item.inLoop c' :: k') <:+ k := fun {y c' k'} hc => suffix_tail (fun c => by simp) (fun _ _ h => h) c' k' hc
        have into : ∀ {ys : List Item}, ∀ c' k', (Item.inLoop c' :: k') <:+ (.code c :: k) → (Item.inLoop c' :: k') <:+ (ys ++ k) := fun {ys} c' k' hc => (hk hc).trans (List.suffix_append _ _)
        cases c with
        | skip =>
          simp only [sym] at h
          exact .step (fun b cs => step_skip) (ih nv lv k s ρ stk a w hρ (hgood.mono (Nat.le_refl _) (into (ys := []))) h hat)
        | label l =>
          simp only [sym] at h
          exact .step (fun b cs => step_label) (ih nv lv k s ρ stk a w hρ (hgood.mono (Nat.le_refl _) (into (ys := []))) h hat)
        | ret =>
          simp only [sym] at h
          exact .ret (leaf rfl h).1
        | seq x y =>
          simp only [sym] at h
          exact .step (fun b cs => step_seq) (ih nv lv _ s ρ stk a w hρ (hgood.mono (Nat.le_refl _) (into (ys := [.code x, .code y]))) h hat)
        | block id c =>
          simp only [sym] at h
          exact .step (fun b cs => step_block) (ih nv lv _ s ρ stk a w hρ (hgood.mono (Nat.le_refl _) (into (ys := [.code c, .inBlock id]))) h hat)
        | exit id =>
          simp only [sym] at h
          split at h
          · rename_i k' hex
            have hsuf : k' <:+ (.code (.exit id) :: k) := (exitTo_suffix hex).trans (List.suffix_cons _ _)
            exact .step (fun b cs => step_exit hex) (ih nv _ k' s ρ stk a w hρ (hgood.leave hsuf) h hat)
          · rw [ev] at h; exact h.elim
        | cond c x y =>
          simp only [sym] at h
          split at h
          · rename_i b l hev
            obtain ⟨ctx, rfl, rfl, rfl, rfl, hhp, sim⟩ := id hat
            rw [← hhp] at hev
            obtain ⟨b', hb, hden⟩ := sc_bool (evalO_ok sim (Rd.val_of_run hev))
            simp only [denB, D.bool.injEq] at hden
            subst hden
            exact .step (fun fr cs => step_cond hb) (ih nv lv _ s _ stk a _ hρ (hgood.mono (Nat.le_refl _) (into (ys := [.code (if b then x else y)]))) h hat)
          · rename_i e l _ hev
            obtain ⟨ctx, rfl, rfl, rfl, rfl, hhp, sim⟩ := id hat
            rw [← hhp] at hev
            obtain ⟨b', hb, hden⟩ := sc_bool (evalO_ok sim (Rd.val_of_run hev))
            rw [ev] at h
            have hd : (Sx.den ctx.Γ ctx.ρ e).b = b' := by
              have : Sx.den ctx.Γ ctx.ρ e = .bool b' := hden
              rw [this]; rfl
            rw [hd] at h
            refine .step (fun fr cs => step_cond hb) ?_
            cases b' with
            | true =>
              rw [if_pos rfl] at h
              exact ih nv lv _ s _ stk a _ hρ (hgood.mono (Nat.le_refl _) (into (ys := [.code x]))) h hat
            | false =>
              rw [if_neg (by simp)] at h
              exact ih nv lv _ s _ stk a _ hρ (hgood.mono (Nat.le_refl _) (into (ys := [.code y]))) h hat
          · rw [ev] at h; exact h.elim
        | region id ops draw =>
          simp only [sym] at h
          split at h
          · rename_i s' as hr
            obtain ⟨h1, h2⟩ := ev_wrap h
            rw [hnt] at hr
            exact .wp (region_ok S hX hmix hr h1 hat fun a' w' hat' => ⟨rfl, ih nv lv k s' ρ stk a' w' hρ (hgood.mono (Nat.le_refl _) (into (ys := []))) h2 hat'⟩)
          · rw [ev] at h; exact h.elim
        | loop c =>
          simp only [sym] at h
          refine .step (fun b cs => step_loop) ?_
          split at h
          · exact ih nv lv _ s ρ stk a w hρ (hgood.mono (Nat.le_refl _) (into (ys := [.code c, .inLoop c]))) h hat
          · exact head (todo0 := []) (fun c' k' hc => (hk hc).trans (List.suffix_cons _ _)) rfl h
        | _ => simp only [sym] at h; rw [ev] at h; exact h.elim
      | inBlock id =>
        simp only [sym] at h
        exact .step (fun b cs => step_inBlock) (ih nv lv k s ρ stk a w hρ (hgood.mono (Nat.le_refl _) (suffix_tail (fun c => by simp) fun _ _ h => h)) h hat)
      | inLoop c =>
        simp only [sym] at h
        refine .step (fun b cs => step_inLoop) ?_
        split at h
        · exact head (todo0 := []) (fun c' k' hc => hc) rfl h
        · rename_i i l hf
          split at h
          · rename_i es hm
            obtain ⟨_, m0, c0, k0, lv0, r', g1, g2, g3, g4, g5, g6⟩ := hgood.found hf
            have heq : Item.inLoop c0 :: k0 = .inLoop c :: k := g4.eq_of_length (by simp [g1])
            simp only [List.cons.injEq, Item.inLoop.injEq] at heq
            obtain ⟨rfl, rfl⟩ := heq
            simp only [Nat.sub_zero] at g5
            cases n with
            | zero => unfold ev at h; simp at h
            | succ n =>
              unfold ev at h
              simp only [g5] at h
              obtain ⟨h1, h2⟩ := matchSt_ok hat (by rw [hρ]; exact g3) hfix hm
              refine ihn n (Nat.lt_succ_self n) m0 (l.nv + l.vars) (l :: lv0) _ l.st (ρ.take l.nv ++ denL Γ ρ es) _ a w ?_ (.alive g2 (Nat.le_add_right _ _) (List.suffix_cons _ _) g6 (g6.mono (Nat.le_add_right _ _) fun c' k' hc => hc.trans (List.suffix_cons _ _))) h h2
              rw [List.length_append, List.length_take, Nat.min_eq_left (by rw [hρ]; exact g3)]
              congr 1
              rw [← h1]
              exact (dens_len (c := { Γ := Γ, given := fun _ => Go.undef, ρ := ρ, hp := fun _ => none, L := ⟨fun _ => ⟨0, Go.undef, []⟩, fun _ => False⟩, w := w }))
          · rw [ev] at h; exact h.elim
      | _ => simp only [sym] at h; rw [ev] at h; exact h.elim

end
end Go.Sx
