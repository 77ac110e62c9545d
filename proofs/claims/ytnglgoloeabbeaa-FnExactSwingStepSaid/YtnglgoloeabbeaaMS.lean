/-
  The machine, part S: every operation is done as it is said; operations under a guard.
-/
import Derived.Test.YtnglgoloeabbeaaMR
namespace Go.Sx
open Go Go.RowKit
set_option linter.unusedSimpArgs false
set_option linter.unusedVariables false

/-- What stands around a function's run. -/
structure Setting (P : Program) (G : List Nat) (B : Base) (Γ : Nat → List D → List D) (sigs : Nat → Option Sig) (pre : Nat → List D → Prop) : Prop where
  sums : ∀ f sg, sigs f = some sg → SummOk P G B.env f sg (Γ f) (pre f)
  keeps : ∀ w w' : World, (∀ k ∈ G, w'.heap[k]? = w.heap[k]?) → B.env w → B.env w'
  env : B.env B.w0
  low : ∀ k ∈ G, k < B.w0.heap.size ∧ k ∉ B.M

section
variable {P : Program} {c : Ctx} {sl : Nat → AV} {a : Act} {B : Base} {o : Oper} {sigs : Nat → Option Sig} {clean : List Nat} {g : E} {e : Eff} {pre : Nat → List D → Prop} {G : List Nat}

theorem Setting.at_ (S : Setting P G B c.Γ sigs pre) (s : Sim B c sl a) : B.env c.w :=
  S.keeps B.w0 c.w (fun k hk => s.frame.block k (S.low k hk).1 (S.low k hk).2) S.env

theorem op_ok (s : Sim B c sl a) (S : Setting P G B c.Γ sigs pre) (hX : ∀ k ∈ G, c.L.X k) (hg : (c.den g).b = true) (h : (opEff P sigs clean g o).val sl c.hp = some e) (hn : ∀ n ∈ e.need, NeedOk pre c n) : Does P o a c e := by
  cases ho : o.op with
  | move x => exact assign_ok s hg (.inl ho) h
  | assign x => exact assign_ok s hg (.inr ho) h
  | pick x y z => exact pick_ok s hg ho h hn
  | alloc t => exact alloc_ok s hg ho h
  | box t x => exact box_ok s hg ho h
  | build t ps => exact build_ok s hg ho h
  | buildSlice t n ps => exact buildSlice_ok s hg ho h
  | load t x => exact load_ok s hg ho h
  | store t x y => exact store_ok s hg ho h
  | nilCheck x => exact nilCheck_ok s hg ho h
  | binOp op t x y yt => exact binOp_ok s hg ho h hn
  | unOp op t x => exact unOp_ok s hg ho h
  | convert src d x => exact convert_ok s hg ho h
  | makeSlice t l k => exact makeSlice_ok s hg ho h hn
  | slice t x lo hi mx => exact slice_ok s hg ho h hn
  | fieldAddr t x f => exact fieldAddr_ok s hg ho h
  | field t x f => exact field_ok s hg ho h
  | indexAddr t x i => exact indexAddr_ok s hg ho h hn
  | index t x i => exact index_ok s hg ho h hn
  | extract x i => exact extract_ok s hg ho h
  | call cc =>
    cases hc : cc.callee with
    | value f =>
      cases f with
      | func f =>
        simp only [opEff, ho, hc, Rd.val_bind] at h
        replace h := bind_some h; obtain ⟨vs, hv, h⟩ := h
        simp only [Rd.if_bind] at h
        exact callEff_ok s S.sums hX (S.at_ s) ho hc (mapRd_ok (α := Unit) s hg hv) h.2 hn
      | _ => simp [opEff, ho, hc] at h
    | builtin b =>
      cases b with
      | len => exact len_ok s hg ho hc h
      | append => exact append_ok s hg ho hc h hn
      | min => exact minmax_ok s hg ho (.inl hc) h
      | max => exact minmax_ok s hg ho (.inr hc) h
      | _ => simp [opEff, ho, hc] at h
    | invoke r n => simp [opEff, ho, hc] at h
  | _ => simp [opEff, ho] at h

def putSl (sl : Nat → AV) (d : Option Nat) (x : AV) : Nat → AV := fun t => if d = some t then x else sl t

theorem EffOk.sim {c' : Ctx} {v : Value} (s : Sim B c sl a) (he : EffOk c e c' v) {d : Option Nat} (hd : ∀ t, d = some t → t < B.nt) {x : AV} (hx : AVOk c' x v) : Sim B c' (putSl sl d x) (a.put d v) := by
  refine s.step he.step (by cases d <;> simp [Act.put]) (by cases d <;> simp [Act.put]) (fun t => ?_) he.blks he.accs he.disj he.frame
  cases d with
  | none => exact .inl ⟨by simp [putSl], rfl⟩
  | some t0 =>
    by_cases ht : t0 = t
    · subst ht
      refine .inr ?_
      have : t0 < a.tmps.size := by rw [s.tmps]; exact hd _ rfl
      simp only [putSl, if_true, Act.put]
      rw [Array.getD_eq_getD_getElem?, Array.getElem?_setIfInBounds_self_of_lt this]
      exact hx
    · refine .inl ⟨by simp [putSl, ht], ?_⟩
      simp only [Act.put]
      rw [Array.getD_eq_getD_getElem?, Array.getElem?_setIfInBounds_ne ht, ← Array.getD_eq_getD_getElem?]

/-! ### Blocks that are said again -/

theorem updHp_some {hp : Nat → Option Blk} {b : Nat} : ∀ {l : List (Nat × Blk)}, b ∈ l.map (·.1) → ∃ y ∈ l, y.1 = b ∧ updHp hp l b = some y.2
  | [], h => nomatch h
  | (i, x) :: r, h => by
    by_cases hr : b ∈ r.map (·.1)
    · obtain ⟨y, hy, e, hu⟩ := updHp_some (hp := fun j => if j = i then some x else hp j) hr
      exact ⟨y, List.mem_cons_of_mem _ hy, e, hu⟩
    · have hb : b = i := by
        rcases List.mem_cons.1 h with h | h
        · exact h
        · exact absurd h hr
      subst hb
      refine ⟨(b, x), List.mem_cons_self .., rfl, ?_⟩
      rw [updHp, updHp_not fun y hy e => hr (List.mem_map.2 ⟨y, hy, e⟩)]
      simp

/-- A block that is said in other words, or is used up. -/
def Said (c : Ctx) (y : Nat × Blk) : Prop :=
  (∃ k old l, y.2 = .box k l ∧ c.hp y.1 = some (.box k old) ∧ ∀ c' : Ctx, c'.Γ = c.Γ → c'.ρ = c.ρ → ∀ vs, AVsOk c' old vs → AVsOk c' l vs) ∨
  (∃ k u ts e own clean live, y.2 = .row k u ts e own clean false ∧ c.hp y.1 = some (.row k u ts e own clean live))

theorem retire (s : Sim B c sl a) {us : List (Nat × Blk)} (h : ∀ y ∈ us, Said c y) : Sim B { c with hp := updHp c.hp us } sl a := by
  have hgen : ∀ y ∈ us, gen (c.hp y.1) = gen (some y.2) := fun y hy => by
    rcases h y hy with ⟨k, old, l, e1, e2, _⟩ | ⟨k, u, ts, e, own, clean, live, e1, e2⟩ <;> rw [e1, e2] <;> rfl
  have hacc : ∀ y ∈ us, ∀ lo k, k ∈ acc y.2 lo → ∃ x, c.hp y.1 = some x ∧ k ∈ acc x lo := fun y hy lo k hk => by
    rcases h y hy with ⟨q, old, l, e1, e2, _⟩ | ⟨q, u, ts, e, own, clean, live, e1, e2⟩
    · rw [e1] at hk; exact ⟨_, e2, hk⟩
    · rw [e1] at hk; exact nomatch hk
  have hhard : ∀ y ∈ us, ∀ lo k, k ∈ hard y.2 lo → ∃ x, c.hp y.1 = some x ∧ k ∈ hard x lo := fun y hy lo k hk => by
    rcases h y hy with ⟨q, old, l, e1, e2, _⟩ | ⟨q, u, ts, e, own, clean, live, e1, e2⟩
    · rw [e1] at hk; exact ⟨_, e2, hk⟩
    · rw [e1] at hk; exact nomatch hk
  have hnot : ∀ b, b ∉ us.map (·.1) → updHp c.hp us b = c.hp b := fun b hb => updHp_not fun y hy e => hb (List.mem_map.2 ⟨y, hy, e⟩)
  have hstep : Step c { c with hp := updHp c.hp us } (us.map (·.1)) := {
    foreign := rfl
    given := rfl
    Γ := rfl
    ρ := rfl
    size := Nat.le_refl _
    same := fun b hb => ⟨hnot b hb, rfl⟩
    mem := fun _ _ _ => rfl
    gens := fun b hb => by
      obtain ⟨y, hy, rfl, e⟩ := updHp_some (hp := c.hp) hb
      show gen (c.hp y.1) ≤ gen (updHp c.hp us y.1)
      rw [e, hgen y hy]; exact Nat.le_refl _
    hard := fun b hb x' hx' k hk _ => by
      obtain ⟨y, hy, rfl, e⟩ := updHp_some (hp := c.hp) hb
      replace hx' : updHp c.hp us y.1 = some x' := hx'
      rw [e] at hx'
      simp only [Option.some.injEq] at hx'
      subst hx'
      obtain ⟨x, h1, h2⟩ := hhard y hy _ k hk
      exact ⟨y.1, hb, x, h1, h2⟩
    row := fun b hb g' u' ts' e' own' clean' live' hg hx' => by
      obtain ⟨y, hy, rfl, e⟩ := updHp_some (hp := c.hp) hb
      replace hx' : updHp c.hp us y.1 = _ := hx'
      rw [e] at hx'
      simp only [Option.some.injEq] at hx'
      rcases h y hy with ⟨q, old, l, e1, e2, _⟩ | ⟨q, u, ts, ex, own, clean, live, e1, e2⟩
      · rw [e1] at hx'; simp at hx'
      · rw [e1] at hx'
        simp only [Blk.row.injEq] at hx'
        obtain ⟨rfl, rfl, rfl, rfl, rfl, rfl, rfl⟩ := hx'
        exact ⟨_, _, _, _, _, e2, rfl, rfl, (fun h => nomatch h), (fun h => nomatch h)⟩
    box := fun b hb g' cells' hg hx' => by
      obtain ⟨y, hy, rfl, e⟩ := updHp_some (hp := c.hp) hb
      replace hx' : updHp c.hp us y.1 = _ := hx'
      rw [e] at hx'
      simp only [Option.some.injEq] at hx'
      rcases h y hy with ⟨q, old, l, e1, e2, _⟩ | ⟨q, u, ts, ex, own, clean, live, e1, e2⟩
      · rw [e1] at hx'
        simp only [Blk.box.injEq] at hx'
        obtain ⟨rfl, rfl⟩ := hx'
        exact ⟨_, e2, rfl⟩
      · rw [e1] at hx'; simp at hx' }
  refine s.step hstep rfl rfl (fun t => .inl ⟨rfl, rfl⟩) (fun b hb x hx => ?_) (fun b hb x' hx' k hk => ?_) (fun b b' x x' hb hb' hne hx hx' k hk hk' => ?_) ⟨rfl, rfl, rfl⟩
  · obtain ⟨y, hy, rfl, e⟩ := updHp_some (hp := c.hp) hb
    replace hx : updHp c.hp us y.1 = _ := hx
    rw [e] at hx
    simp only [Option.some.injEq] at hx
    subst hx
    rcases h y hy with ⟨q, old, l, e1, e2, e3⟩ | ⟨q, u, ts, ex, own, clean, live, e1, e2⟩
    · rw [e1]
      obtain ⟨vs, T, h1, h2⟩ := s.blks _ _ e2
      exact ⟨vs, T, h1, e3 { c with hp := updHp c.hp us } rfl rfl vs (AVsOk.step hstep s.blks s.disj old vs h2)⟩
    · rw [e1]
      have hok := s.blks _ _ e2
      have hfrom := row_took s e2
      have hlt := (row_rep hok).lt
      obtain ⟨⟨d, h0, h1⟩, q2, q3, q4, q5⟩ := hok
      refine ⟨⟨d, h0, ?_⟩, fun _ k hk => ?_, (fun h => nomatch h), (fun h => nomatch h), q5⟩
      · rcases h1 with h1 | ⟨o', len, cap, vs', p1, p2, p3, p4, p5, p6, p7, p8⟩
        · exact .inl h1
        · exact .inr ⟨o', len, cap, vs', p1, p2, p3, p4, p5, (fun h => nomatch h), p7, p8⟩
      · rcases hfrom k hk with hp | ⟨b1, hb1, x1, p1, p2⟩
        · exact hstep.perm (hlt k hk) hp
        · rw [List.mem_singleton.1 hb1] at p1 p2
          refine ⟨fun b2 x2 hx2 hm => ?_, fun hX => s.apart _ _ p1 k p2 hX⟩
          replace hx2 : updHp c.hp us b2 = some x2 := hx2
          by_cases hb2 : b2 ∈ us.map (·.1)
          · obtain ⟨y2, hy2, rfl, e2'⟩ := updHp_some (hp := c.hp) hb2
            rw [e2'] at hx2
            simp only [Option.some.injEq] at hx2
            subst hx2
            by_cases hyy : y2.1 = y.1
            · rw [hyy] at e2'
              rw [e] at e2'
              simp only [Option.some.injEq] at e2'
              rw [← e2', e1] at hm
              exact nomatch hm
            · obtain ⟨x3, p3, p4⟩ := hhard y2 hy2 _ k hm
              exact s.disj _ _ _ _ hyy p3 p1 k (hard_acc (s.blks _ _ p3) k p4) p2
          · rw [hnot b2 hb2] at hx2
            exact s.disj b2 y.1 _ _ (fun e' => hb2 (e' ▸ List.mem_map_of_mem hy)) hx2 p1 k (hard_acc (s.blks _ _ hx2) k hm) p2
  · obtain ⟨y, hy, rfl, e⟩ := updHp_some (hp := c.hp) hb
    replace hx' : updHp c.hp us y.1 = _ := hx'
    rw [e] at hx'
    simp only [Option.some.injEq] at hx'
    subst hx'
    obtain ⟨x, h1, h2⟩ := hacc y hy _ k hk
    exact .inr ⟨y.1, hb, x, h1, h2⟩
  · obtain ⟨y, hy, rfl, e⟩ := updHp_some (hp := c.hp) hb
    obtain ⟨y', hy', rfl, e'⟩ := updHp_some (hp := c.hp) hb'
    replace hx : updHp c.hp us y.1 = _ := hx
    replace hx' : updHp c.hp us y'.1 = _ := hx'
    rw [e] at hx
    rw [e'] at hx'
    simp only [Option.some.injEq] at hx hx'
    subst hx; subst hx'
    obtain ⟨x1, h1, h2⟩ := hacc y hy _ k hk
    obtain ⟨x2, h3, h4⟩ := hacc y' hy' _ k hk'
    exact s.disj _ _ _ _ hne h1 h3 k h2 h4

/-! ### Under a guard -/

theorem same_eq {x y : AV} (h : x.same y = true) : x = y := by
  unfold AV.same at h
  split at h <;> try simp only [Bool.and_eq_true, beq_iff_eq] at h
  · rw [Ty.eq_of_beq h.1, E.eq_of_beq h.2]
  · rfl
  · rw [Ty.eqL h.1, E.eq_of_beq h.2]
  · rw [Ty.eqL h.1, h.2]
  · rw [h.1, h.2]
  · rw [h.1.1, h.1.2, h.2]
  · simp at h

theorem den_ite {p x y : E} : c.den (.app .ite [p, x, y]) = if (c.den p).b then c.den x else c.den y := by
  rw [den3]; rfl

theorem mergeAV_ok : ∀ {os ns l : List AV}, mergeAV g os ns = some l → ∀ {vs : List Value}, ((c.den g).b = true → AVsOk c ns vs) → ((c.den g).b = false → AVsOk c os vs) → AVsOk c l vs
  | [], [], l, h, vs, h1, h2 => by
    simp [mergeAV] at h; subst h
    cases hg : (c.den g).b with
    | true => exact h1 hg
    | false => exact h2 hg
  | [], _ :: _, _, h, _, _, _ => by simp [mergeAV] at h
  | _ :: _, [], _, h, _, _, _ => by simp [mergeAV] at h
  | o :: os, n :: ns, l, h, vs, h1, h2 => by
    simp only [mergeAV] at h
    split at h
    · simp at h
    rename_i l0 hl0
    cases vs with
    | nil =>
      cases hg : (c.den g).b with
      | true => exact (h1 hg).elim
      | false => exact (h2 hg).elim
    | cons v vs =>
      have rest : AVsOk c l0 vs := mergeAV_ok hl0 (fun hg => (h1 hg).2) fun hg => (h2 hg).2
      split at h
      · rename_i hs
        simp at h; subst h
        refine ⟨?_, rest⟩
        cases hg : (c.den g).b with
        | true => rw [same_eq hs]; exact (h1 hg).1
        | false => exact (h2 hg).1
      · split at h
        · split at h
          · rename_i t x t' y ht
            simp at h; subst h
            have := Ty.eq_of_beq ht
            subst this
            refine ⟨?_, rest⟩
            cases hg : (c.den g).b with
            | true => exact ⟨(h1 hg).1.1, by rw [den_ite, if_pos hg]; exact (h1 hg).1.2⟩
            | false => exact ⟨(h2 hg).1.1, by rw [den_ite, if_neg (by simp [hg])]; exact (h2 hg).1.2⟩
          · simp at h
        · split at h
          · rename_i t x t' y ht
            simp at h; subst h
            have := Ty.eqL ht
            subst this
            refine ⟨?_, rest⟩
            cases hg : (c.den g).b with
            | true =>
              obtain ⟨fp, p1, p2⟩ := (h1 hg).1
              exact ⟨fp, by rw [den_ite, if_pos hg]; exact p1, p2⟩
            | false =>
              obtain ⟨fp, p1, p2⟩ := (h2 hg).1
              exact ⟨fp, by rw [den_ite, if_neg (by simp [hg])]; exact p1, p2⟩
          · simp at h
        · simp at h

/-- One entry, and how it is said under the guard. -/
def Merged (c : Ctx) (g : E) (x y : Nat × Blk) : Prop :=
  x.1 = y.1 ∧ ((∃ k cells old l, x.2 = .box k cells ∧ c.hp x.1 = some (.box k old) ∧ mergeAV g old cells = some l ∧ y.2 = .box k l) ∨
    (∃ k u ts e own clean live, x.2 = .row k u ts e own clean false ∧ c.hp x.1 = some (.row k u ts e own clean live) ∧ y.2 = .row k u ts e own clean false))

theorem mergeUpd_ok {sl0 : Nat → AV} : ∀ {l us : List (Nat × Blk)}, (mergeUpd g l).val sl0 c.hp = some us → us.map (·.1) = l.map (·.1) ∧ ∀ y ∈ us, ∃ x ∈ l, Merged c g x y
  | [], us, h => by simp [mergeUpd] at h; subst h; exact ⟨rfl, fun _ h => nomatch h⟩
  | (b, x) :: r, us, h => by
    simp only [mergeUpd, Rd.val_bind] at h
    replace h := bind_some h; obtain ⟨us', h1, h⟩ := h
    obtain ⟨r1, r2⟩ := mergeUpd_ok h1
    simp only [Rd.val_blk, Option.bind_some] at h
    split at h
    · rename_i k cells k' old hb
      simp only [Rd.if_bind, Rd.val_bind, Rd.val_opt, beq_iff_eq] at h
      obtain ⟨rfl, h⟩ := h
      replace h := bind_some h; obtain ⟨l, hl, h⟩ := h
      simp at h; subst h
      refine ⟨by simp [r1], fun y hy => ?_⟩
      rcases List.mem_cons.1 hy with rfl | hy
      · exact ⟨_, List.mem_cons_self .., rfl, .inl ⟨k, cells, old, l, rfl, hb, hl, rfl⟩⟩
      · obtain ⟨x, hx, hm⟩ := r2 y hy
        exact ⟨x, List.mem_cons_of_mem _ hx, hm⟩
    · rename_i k u ts e own clean k' u' ts' e' own' clean' live' hb
      simp only [Rd.if_bind, Rd.val_bind, Bool.and_eq_true, beq_iff_eq] at h
      obtain ⟨⟨⟨⟨⟨⟨rfl, rfl⟩, hts⟩, he⟩, rfl⟩, rfl⟩, h⟩ := h
      have := Ty.eqL hts
      subst this
      have := E.eq_of_beq he
      subst this
      simp at h; subst h
      refine ⟨by simp [r1], fun y hy => ?_⟩
      rcases List.mem_cons.1 hy with rfl | hy
      · exact ⟨_, List.mem_cons_self .., rfl, .inr ⟨_, _, _, _, _, _, _, rfl, hb, rfl⟩⟩
      · obtain ⟨x, hx, hm⟩ := r2 y hy
        exact ⟨x, List.mem_cons_of_mem _ hx, hm⟩
    · simp at h

theorem updHp_names {hp hp' : Nat → Option Blk} {us : List (Nat × Blk)} (h : ∀ b, b ∉ us.map (·.1) → hp b = hp' b) : updHp hp us = updHp hp' us := by
  funext b
  by_cases hb : b ∈ us.map (·.1)
  · clear h
    induction us generalizing hp hp' with
    | nil => exact nomatch hb
    | cons y r ih =>
      obtain ⟨i, x⟩ := y
      rw [updHp, updHp]
      by_cases hr : b ∈ r.map (·.1)
      · exact ih hr
      · rw [updHp_not fun y hy e => hr (List.mem_map.2 ⟨y, hy, e⟩), updHp_not fun y hy e => hr (List.mem_map.2 ⟨y, hy, e⟩)]
        rcases List.mem_cons.1 hb with h | h
        · simp only at h; simp [h]
        · exact absurd h hr
  · rw [updHp_not fun y hy e => hb (List.mem_map.2 ⟨y, hy, e⟩), updHp_not fun y hy e => hb (List.mem_map.2 ⟨y, hy, e⟩), h b hb]

theorem distinct_upd {l : List (Nat × Blk)} (hd : distinct (l.map (·.1)) = true) {hp : Nat → Option Blk} {y : Nat × Blk} (hy : y ∈ l) : updHp hp l y.1 = some y.2 := by
  refine updHp_mem (fun z hz e => ?_) ⟨y, hy, rfl⟩
  have : z = y := by
    clear hp
    induction l with
    | nil => exact nomatch hy
    | cons x r ih =>
      simp only [List.map_cons, distinct, Bool.and_eq_true, Bool.not_eq_true', List.contains_eq_mem, decide_eq_false_iff_not] at hd
      rcases List.mem_cons.1 hz with h1 | h1 <;> rcases List.mem_cons.1 hy with h2 | h2
      · rw [h1, h2]
      · subst h1; exact absurd (e ▸ List.mem_map_of_mem h2) hd.1
      · subst h2; exact absurd (e ▸ List.mem_map_of_mem h1) hd.1
      · exact ih hd.2 h2 h1
  rw [this]

/-- What follows an operation. -/
def Follows (B : Base) (c : Ctx) (sl : Nat → AV) (o : Oper) (e : Eff) (K : Act → World → Prop) : Prop :=
  ∀ (a' : Act) (c' : Ctx), Sim B c' (putSl sl o.dst e.val) a' → c'.hp = updHp c.hp e.upd → c'.Γ = c.Γ → c'.ρ = c.ρ → c'.L.X = c.L.X → K a' c'.w

theorem run_true (s : Sim B c sl a) (S : Setting P G B c.Γ sigs pre) (hX : ∀ k ∈ G, c.L.X k) (hg : (c.den g).b = true) (h : (opEff P sigs clean g o).val sl c.hp = some e) (hn : ∀ n ∈ e.need, NeedOk pre c n) (hd : ∀ d, o.dst = some d → d < B.nt)
    {K : Act → World → Prop} {Q : Exit → Act → World → Prop} (hK : Follows B c sl o e K) : o.wp P a c.w K Q :=
  op_ok s S hX hg h hn K Q fun v c' he => hK (a.put o.dst v) c' (he.sim s hd he.val) he.hp he.step.Γ he.step.ρ he.step.foreign

theorem runG_true {q : Eff × List Ask} {sl0 : Nat → AV} {hp0 : Nat → Option Blk} (h : (runG P sigs clean o (.bool true)).val sl0 hp0 = some q) : (opEff P sigs clean (.bool true) o).val sl0 hp0 = some q.1 ∧ q.2 = q.1.need.map fun n => ⟨.bool true, n⟩ := by
  simp only [runG, Rd.val_bind] at h
  replace h := bind_some h; obtain ⟨e, h1, h⟩ := h
  simp at h; subst h
  exact ⟨h1, rfl⟩

theorem runG_else {q : Eff × List Ask} {sl0 : Nat → AV} {hp0 : Nat → Option Blk} (hg : g ≠ .bool true) (h : (runG P sigs clean o g).val sl0 hp0 = some q) :
    ∃ e us, (opEff P sigs clean g o).val sl0 hp0 = some e ∧ distinct (e.upd.map (·.1)) = true ∧ (mergeUpd g e.upd).val sl0 hp0 = some us ∧ q = ({ e with val := .maybe g e.val, upd := us }, e.need.map fun n => ⟨g, n⟩) := by
  simp only [runG, Rd.val_bind] at h
  replace h := bind_some h; obtain ⟨e, h1, h⟩ := h
  have h' : (rdIf ((match e.val with | .maybe _ _ => false | _ => true) && distinct (e.upd.map (·.1))) >>= fun _ => mergeUpd g e.upd >>= fun us =>
      (Rd.pure ({ e with val := .maybe g e.val, upd := us }, e.need.map fun n => (⟨g, n⟩ : Ask)) : Rd (Eff × List Ask))).val sl0 hp0 = some q := by
    simp only [Rd.val_bind]
    cases g with
    | bool b => cases b with
      | false => exact h
      | true => exact absurd rfl hg
    | _ => exact h
  simp only [Rd.val_bind, Rd.if_bind, Bool.and_eq_true] at h'
  obtain ⟨⟨_, h2⟩, h'⟩ := h'
  replace h' := bind_some h'; obtain ⟨us, h3, h'⟩ := h'
  simp at h'; subst h'
  exact ⟨e, us, h1, h2, h3, rfl⟩

theorem runG_yes (s : Sim B c sl a) (S : Setting P G B c.Γ sigs pre) (hX : ∀ k ∈ G, c.L.X k) (hg : (c.den g).b = true) {q : Eff × List Ask} (h : (runG P sigs clean o g).val sl c.hp = some q) (hn : ∀ x ∈ q.2, (c.den x.g).b = true → NeedOk pre c x.n)
    (hd : ∀ d, o.dst = some d → d < B.nt) {K : Act → World → Prop} {Q : Exit → Act → World → Prop} (hK : Follows B c sl o q.1 K) : o.wp P a c.w K Q := by
  by_cases hgt : g = .bool true
  · subst hgt
    obtain ⟨h1, h2⟩ := runG_true h
    exact run_true s S hX hg h1 (fun n hn' => hn ⟨.bool true, n⟩ (by rw [h2]; exact List.mem_map_of_mem hn') hg) hd hK
  · obtain ⟨e, us, h1, h2, h3, rfl⟩ := runG_else hgt h
    obtain ⟨m1, m2⟩ := mergeUpd_ok h3
    refine op_ok s S hX hg h1 (fun n hn' => hn ⟨g, n⟩ (List.mem_map_of_mem hn') hg) K Q fun v c1 he => ?_
    have hs1 := he.sim s hd (x := .maybe g e.val) ⟨fun _ => he.val, fun hf => by rw [he.step.den, hg] at hf; exact nomatch hf⟩
    have hden : ∀ x, c1.den x = c.den x := fun x => he.step.den x
    have hsaid : ∀ y ∈ us, Said c1 y := fun y hy => by
      obtain ⟨x, hx, e1, hm⟩ := m2 y hy
      have hx1 : c1.hp y.1 = some x.2 := by rw [he.hp, ← e1]; exact distinct_upd h2 hx
      rcases hm with ⟨k, cells, old, l, p1, p2, p3, p4⟩ | ⟨k, u, ts, ex, own, cl, live, p1, p2, p3⟩
      · refine .inl ⟨k, cells, l, p4, by rw [hx1, p1], fun c' hΓ hρ vs hvs => mergeAV_ok p3 (fun _ => hvs) fun hf => ?_⟩
        have : c'.den g = c.den g := by unfold Ctx.den; rw [hΓ, hρ, he.step.Γ, he.step.ρ]
        rw [this, hg] at hf; exact nomatch hf
      · exact .inr ⟨k, u, ts, ex, own, cl, false, p3, by rw [hx1, p1]⟩
    have hs2 := retire hs1 hsaid
    refine hK (a.put o.dst v) { c1 with hp := updHp c1.hp us } hs2 ?_ he.step.Γ he.step.ρ he.step.foreign
    show updHp c1.hp us = updHp c.hp us
    refine updHp_names fun b hb => ?_
    rw [he.hp]
    exact updHp_not fun y hy e' => hb (by rw [m1, ← e']; exact List.mem_map_of_mem hy)

theorem runG_no (s : Sim B c sl a) (hg : (c.den g).b = false) {q : Eff × List Ask} (h : (runG P sigs clean o g).val sl c.hp = some q) (hd : ∀ d, o.dst = some d → d < B.nt) {K : Act → World → Prop} (hK : Follows B c sl o q.1 K) : K (a.put o.dst Go.undef) c.w := by
  have hgt : g ≠ .bool true := fun e => by subst e; simp [denB] at hg
  obtain ⟨e, us, h1, h2, h3, rfl⟩ := runG_else hgt h
  obtain ⟨m1, m2⟩ := mergeUpd_ok h3
  have hs1 : Sim B c (putSl sl o.dst (.maybe g e.val)) (a.put o.dst Go.undef) := s.put o.dst hd (.maybe g e.val) Go.undef rfl fun _ => ⟨fun ht => by rw [hg] at ht; exact (nomatch ht), fun _ => rfl⟩
  have hsaid : ∀ y ∈ us, Said c y := fun y hy => by
    obtain ⟨x, hx, e1, hm⟩ := m2 y hy
    rcases hm with ⟨k, cells, old, l, p1, p2, p3, p4⟩ | ⟨k, u, ts, ex, own, cl, live, p1, p2, p3⟩
    · refine .inl ⟨k, old, l, p4, by rw [← e1]; exact p2, fun c' hΓ hρ vs hvs => mergeAV_ok p3 (fun ht => ?_) fun _ => hvs⟩
      have : c'.den g = c.den g := by unfold Ctx.den; rw [hΓ, hρ]
      rw [this, hg] at ht; exact nomatch ht
    · exact .inr ⟨k, u, ts, ex, own, cl, live, p3, by rw [← e1]; exact p2⟩
  exact hK (a.put o.dst Go.undef) { c with hp := updHp c.hp us } (retire hs1 hsaid) rfl rfl rfl rfl

theorem yielded_slot (s : Sim B c sl a) {ops : Array Oper} {j t : Nat} (ht : (ops[j]?).bind (·.dst) = some t) {b : Bool} (h : a.tmps.getD t Go.undef = .bool b) : yielded ops a.tmps j = some b := by
  unfold yielded
  rw [ht, Option.bind_some]
  rw [Array.getD_eq_getD_getElem?] at h
  cases hx : a.tmps[t]? with
  | none => rw [hx] at h; simp [Go.undef] at h
  | some v => rw [hx] at h; simp at h; rw [h]

theorem yielded_undef {ops : Array Oper} {j t : Nat} (ht : (ops[j]?).bind (·.dst) = some t) (h : a.tmps.getD t Go.undef = Go.undef) : yielded ops a.tmps j = none := by
  unfold yielded
  rw [ht, Option.bind_some]
  rw [Array.getD_eq_getD_getElem?] at h
  cases hx : a.tmps[t]? with
  | none => rfl
  | some v => rw [hx] at h; simp at h; rw [h]; rfl

theorem stepRd_ok (s : Sim B c sl a) (S : Setting P G B c.Γ sigs pre) (hX : ∀ k ∈ G, c.L.X k) {ops : Array Oper} {i : Nat} (hi : ops[i]? = some o) {q : Eff × List Ask} (h : (stepRd P sigs clean ops o).val sl c.hp = some q)
    (hn : ∀ x ∈ q.2, (c.den x.g).b = true → NeedOk pre c x.n) (hd : ∀ d, o.dst = some d → d < B.nt) {K : Act → World → Prop} {Q : Exit → Act → World → Prop} (hK : Follows B c sl o q.1 K) : wpOp P ops Q i K a c.w := by
  unfold wpOp
  rw [hi]
  simp only
  have skip : q = ({ val := .skip }, []) → K (a.put o.dst Go.undef) c.w := fun e => by
    subst e
    exact hK (a.put o.dst Go.undef) c (s.put o.dst hd .skip Go.undef rfl fun _ => rfl) rfl rfl rfl rfl
  unfold stepRd at h
  cases hgd : o.guard with
  | none =>
    simp only [hgd] at h
    have hw : Region.wanted o (yielded ops a.tmps) = true := by simp [Region.wanted, hgd]
    rw [if_pos hw]
    exact .inl (runG_yes s S hX (by simp [denB]) h hn hd hK)
  | some jw =>
    obtain ⟨j, want⟩ := jw
    simp only [hgd, Rd.val_bind, Rd.val_opt] at h
    replace h := bind_some h; obtain ⟨t, ht, h⟩ := h
    simp only [Rd.val_slot, Option.bind_some] at h
    have hst := s.slots t
    have bool : ∀ {e : E} {g : E}, sl t = .sc .bool e → (c.den g).b = ((c.den e).b == want) → (runG P sigs clean o g).val sl c.hp = some q →
        if Region.wanted o (yielded ops a.tmps) then o.wp P a c.w K Q ∨ (o.asks P a c.w ∧ LetsOut Q) else K (a.put o.dst Go.undef) c.w := by
      intro e g he hge h
      rw [he] at hst
      obtain ⟨b, hb, hden⟩ := sc_bool hst
      have hy := yielded_slot s ht hb
      have hw : Region.wanted o (yielded ops a.tmps) = (b == want) := by
        unfold Region.wanted
        rw [hgd]
        simp only [hy]
        cases b <;> cases want <;> rfl
      rw [hden] at hge
      simp only [D.b_bool] at hge
      rw [hw, ← hge]
      cases hg : (c.den g).b with
      | true => rw [if_pos rfl]; exact .inl (runG_yes s S hX hg h hn hd hK)
      | false => rw [if_neg (by simp)]; exact runG_no s hg h hd hK
    split at h
    · rename_i b hsl
      rw [hsl] at hst
      obtain ⟨b', hb, hden⟩ := sc_bool hst
      simp only [denB, D.bool.injEq] at hden
      subst hden
      have hy := yielded_slot s ht hb
      have hw : Region.wanted o (yielded ops a.tmps) = (b == want) := by
        unfold Region.wanted
        rw [hgd]
        simp only [hy]
        cases b <;> cases want <;> rfl
      rw [hw]
      split at h
      · rename_i hbw
        rw [if_pos hbw]
        exact .inl (runG_yes s S hX (by simp [denB]) h hn hd hK)
      · rename_i hbw
        rw [if_neg hbw]
        exact skip (by simpa using h.symm)
    · rename_i e _ hsl
      refine bool hsl ?_ h
      cases want with
      | true => simp
      | false => simp [E.not, den1, evalF]
    · rename_i g0 e hsl
      rw [hsl] at hst
      have hand : ∀ x : E, (c.den (.and g0 x)).b = ((c.den g0).b && (c.den x).b) := fun x => by simp [E.and, den2, evalF]
      cases hg0 : (c.den g0).b with
      | true =>
        obtain ⟨b, hb, hden⟩ := sc_bool (hst.1 hg0)
        have hy := yielded_slot s ht hb
        have hw : Region.wanted o (yielded ops a.tmps) = (b == want) := by
          unfold Region.wanted
          rw [hgd]
          simp only [hy]
          cases b <;> cases want <;> rfl
        have hge : (c.den (.and g0 (if want then e else .not e))).b = (b == want) := by
          rw [hand, hg0]
          cases want with
          | true => simp [hden]
          | false => simp [E.not, den1, evalF, hden]
        rw [hw, ← hge]
        cases hg : (c.den (.and g0 (if want then e else .not e))).b with
        | true => rw [if_pos rfl]; exact .inl (runG_yes s S hX hg h hn hd hK)
        | false => rw [if_neg (by simp)]; exact runG_no s hg h hd hK
      | false =>
        have hy := yielded_undef ht (hst.2 hg0)
        have hw : Region.wanted o (yielded ops a.tmps) = false := by simp [Region.wanted, hgd, hy]
        rw [if_neg (by simp [hw])]
        exact runG_no s (by rw [hand, hg0]; rfl) h hd hK
    · rename_i hsl
      rw [hsl] at hst
      have hy := yielded_undef ht hst
      have hw : Region.wanted o (yielded ops a.tmps) = false := by simp [Region.wanted, hgd, hy]
      rw [if_neg (by simp [hw])]
      exact skip (by simpa using h.symm)
    · simp at h

end
end Go.Sx
