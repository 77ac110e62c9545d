/-
  The machine, part J: what is made anew, and what is used up with it.
-/
import Derived.Test.YtnglgoloeabbeaaMI
import Derived.Laws.MakeOwn
import Derived.Laws.AppendOwn
namespace Go.Sx
open Go Go.RowKit
set_option linter.unusedSimpArgs false
set_option linter.unusedVariables false

theorem updHp_not {hp : Nat → Option Blk} {i : Nat} : ∀ {l : List (Nat × Blk)}, (∀ y ∈ l, y.1 ≠ i) → updHp hp l i = hp i
  | [], _ => rfl
  | (b, x) :: r, h => by
    rw [updHp, updHp_not fun y hy => h y (List.mem_cons_of_mem _ hy)]
    exact if_neg fun e => h (b, x) (List.mem_cons_self ..) e.symm

theorem updHp_mem {hp : Nat → Option Blk} {i : Nat} {z : Blk} : ∀ {l : List (Nat × Blk)}, (∀ y ∈ l, y.1 = i → y.2 = z) → (∃ y ∈ l, y.1 = i) → updHp hp l i = some z
  | [], _, h => nomatch h
  | (b, x) :: r, h, he => by
    rw [updHp]
    by_cases hr : ∃ y ∈ r, y.1 = i
    · exact updHp_mem (fun y hy => h y (List.mem_cons_of_mem _ hy)) hr
    · rw [updHp_not fun y hy e => hr ⟨y, hy, e⟩]
      obtain ⟨y, hy, e⟩ := he
      rcases List.mem_cons.1 hy with rfl | hy
      · simp only at e
        subst e
        rw [if_pos rfl, ← h (b, x) (List.mem_cons_self ..) rfl]
      · exact absurd ⟨y, hy, e⟩ hr

/-- What is used up: rows that may be read from here on, and no more. -/
def Used (c : Ctx) (us : List (Nat × Blk)) : Prop :=
  ∀ y ∈ us, ∃ g u ts e own clean live, y.2 = .row g u ts e own clean false ∧ c.hp y.1 = some (.row g u ts e own clean live)

/-- A block that belongs to one of these names. -/
def Src (c : Ctx) (N : List Nat) (k : Nat) : Prop := ∃ b ∈ N, ∃ x, c.hp b = some x ∧ k ∈ acc x (c.L b)

theorem Src.mono {c : Ctx} {N M : List Nat} {k : Nat} (h : Src c N k) (hs : ∀ b ∈ N, b ∈ M) : Src c M k := by
  obtain ⟨b, hb, r⟩ := h
  exact ⟨b, hs b hb, r⟩

def Ctx.put (c : Ctx) (b : Nat) (x : Blk) (us : List (Nat × Blk)) (l : Loc) (w : World) : Ctx :=
  { c with hp := updHp c.hp ((b, x) :: us), L := ⟨fun i => if i = b then l else c.L i, c.L.X⟩, w := w }

section
variable {P : Program} {c : Ctx} {sl : Nat → AV} {a : Act} {B : Base} {o : Oper} {sigs : Nat → Option Sig} {clean : List Nat} {g : E} {e : Eff} {pre : Nat → List D → Prop}

theorem put_self {b : Nat} {x : Blk} {us : List (Nat × Blk)} {l : Loc} {w : World} (hne : ∀ y ∈ us, y.1 ≠ b) : (c.put b x us l w).hp b = some x := by
  refine updHp_mem (fun y hy e => ?_) ⟨_, List.mem_cons_self .., rfl⟩
  rcases List.mem_cons.1 hy with rfl | hy
  · rfl
  · exact absurd e (hne y hy)
theorem put_used {b : Nat} {x : Blk} {us : List (Nat × Blk)} {l : Loc} {w : World} (hu : Used c us) (hne : ∀ y ∈ us, y.1 ≠ b) {y : Nat × Blk} (hy : y ∈ us) : (c.put b x us l w).hp y.1 = some y.2 := by
  refine updHp_mem (fun z hz e => ?_) ⟨y, List.mem_cons_of_mem _ hy, rfl⟩
  rcases List.mem_cons.1 hz with rfl | hz
  · exact absurd e.symm (hne y hy)
  · obtain ⟨g1, u1, t1, e1, o1, c1, l1, a1, a2⟩ := hu z hz
    obtain ⟨g2, u2, t2, e2, o2, c2, l2, b1, b2⟩ := hu y hy
    rw [e, b2] at a2
    simp only [Option.some.injEq, Blk.row.injEq] at a2
    obtain ⟨rfl, rfl, rfl, rfl, rfl, rfl, rfl⟩ := a2
    rw [a1, b1]
theorem put_other {b : Nat} {x : Blk} {us : List (Nat × Blk)} {l : Loc} {w : World} {i : Nat} (hb : i ≠ b) (hne : ∀ y ∈ us, y.1 ≠ i) : (c.put b x us l w).hp i = c.hp i := by
  refine updHp_not fun y hy => ?_
  rcases List.mem_cons.1 hy with rfl | hy
  · exact hb.symm
  · exact hne y hy

/-- One block turns or is made, some are used up. -/
theorem eff_put (s : Sim B c sl a) {b : Nat} {x : Blk} {us : List (Nat × Blk)} {l : Loc} {w' : World} {val : AV} {need : List Need} {v : Value}
    (hu : Used c us) (hne : ∀ y ∈ us, y.1 ≠ b)
    (hsize : c.w.heap.size ≤ w'.heap.size) (hfr : w'.os = c.w.os ∧ w'.tape = c.w.tape ∧ w'.output = c.w.output)
    (hmem : ∀ k, k < c.w.heap.size → (∀ x0, c.hp b = some x0 → k ∉ hard x0 (c.L b)) → w'.heap[k]? = c.w.heap[k]?)
    (hgen : gen (c.hp b) ≤ gen (some x))
    (hrow : ∀ g u' ts' e' own' clean' live', g < gen (c.hp b) → x = .row g u' ts' e' own' clean' live' →
      ∃ u e own clean live, c.hp b = some (.row g u ts' e own clean live) ∧ l.hdr = (c.L b).hdr ∧ l.blk = (c.L b).blk ∧ (live' = true → live = true) ∧
        (live' = true → u ≤ u' ∧ (u' = u → ∀ n j ts v, ts'[j]? = some (.sl ts) → c.cellAt b ts' n j v → (c.put b x us l w').cellAt b ts' n j v)))
    (hbox : ∀ g cells', g < gen (c.hp b) → x = .box g cells' → ∃ cells, c.hp b = some (.box g cells) ∧ l.blk = (c.L b).blk)
    (hacc : ∀ k ∈ acc x l, c.w.heap.size ≤ k ∨ Src c (b :: us.map (·.1)) k)
    (hhard : ∀ k ∈ hard x l, k < c.w.heap.size → ∃ x0, c.hp b = some x0 ∧ k ∈ hard x0 (c.L b))
    (hblk : Step c (c.put b x us l w') (b :: us.map (·.1)) → BlkOk (c.put b x us l w') x l)
    (hval : Step c (c.put b x us l w') (b :: us.map (·.1)) → AVOk (c.put b x us l w') val v) :
    EffOk c { val := val, upd := (b, x) :: us, need := need } (c.put b x us l w') v := by
  have hself : (c.put b x us l w').hp b = some x := put_self hne
  have hLb : (c.put b x us l w').L b = l := by simp [Ctx.put]
  have hLo : ∀ i, i ≠ b → (c.put b x us l w').L i = c.L i := fun i hi => by simp [Ctx.put, hi]
  have hused : ∀ y ∈ us, (c.put b x us l w').hp y.1 = some y.2 := fun y hy => put_used hu hne hy
  have memW : ∀ i, i ∈ b :: us.map (·.1) → i = b ∨ ∃ y ∈ us, y.1 = i := by
    intro i hi
    rcases List.mem_cons.1 hi with rfl | hi
    · exact .inl rfl
    · obtain ⟨y, hy, e⟩ := List.mem_map.1 hi
      exact .inr ⟨y, hy, e⟩
  have step : Step c (c.put b x us l w') (b :: us.map (·.1)) := {
    foreign := rfl
    given := rfl
    Γ := rfl
    ρ := rfl
    size := hsize
    same := fun i hi => by
      have h1 : i ≠ b := fun e => hi (by simp [e])
      have h2 : ∀ y ∈ us, y.1 ≠ i := fun y hy e => hi (List.mem_cons_of_mem _ (List.mem_map.2 ⟨y, hy, e⟩))
      exact ⟨put_other h1 h2, hLo i h1⟩
    mem := fun k hk h => hmem k hk fun x0 hx0 => h b (List.mem_cons_self ..) x0 hx0
    gens := fun i hi => by
      rcases memW i hi with rfl | ⟨y, hy, rfl⟩
      · rw [hself]; exact hgen
      · rw [hused y hy]
        obtain ⟨g, u, ts, e, own, cl, live, h1, h2⟩ := hu y hy
        rw [h1, h2]; exact Nat.le_refl _
    hard := fun i hi x' hx' k hk hlt => by
      rcases memW i hi with rfl | ⟨y, hy, rfl⟩
      · rw [hself] at hx'
        simp only [Option.some.injEq] at hx'
        subst hx'
        rw [hLb] at hk
        obtain ⟨x0, h1, h2⟩ := hhard k hk hlt
        exact ⟨i, hi, x0, h1, h2⟩
      · rw [hused y hy] at hx'
        obtain ⟨g, u, ts, e, own, cl, live, h1, h2⟩ := hu y hy
        simp only [Option.some.injEq] at hx'
        subst hx'
        rw [h1] at hk
        exact nomatch hk
    row := fun i hi g u' ts' e' own' clean' live' hg hx' => by
      rcases memW i hi with rfl | ⟨y, hy, rfl⟩
      · rw [hself] at hx'
        simp only [Option.some.injEq] at hx'
        rw [hLb]
        exact hrow g u' ts' e' own' clean' live' hg hx'
      · rw [hused y hy] at hx'
        obtain ⟨g, u, ts, e, own, cl, live, h1, h2⟩ := hu y hy
        rw [h1] at hx'
        simp only [Option.some.injEq, Blk.row.injEq] at hx'
        obtain ⟨rfl, rfl, rfl, rfl, rfl, rfl, rfl⟩ := hx'
        rw [hLo _ (hne y hy)]
        exact ⟨_, _, _, _, _, h2, rfl, rfl, (fun h => nomatch h), (fun h => nomatch h)⟩
    box := fun i hi g cells' hg hx' => by
      rcases memW i hi with rfl | ⟨y, hy, rfl⟩
      · rw [hself] at hx'
        simp only [Option.some.injEq] at hx'
        rw [hLb]
        exact hbox g cells' hg hx'
      · rw [hused y hy] at hx'
        obtain ⟨g, u, ts, e, own, cl, live, h1, h2⟩ := hu y hy
        rw [h1] at hx'
        simp at hx' }
  -- what is not a block of the names that turn, or is theirs and no more to be written
  have dj : ∀ i x0, i ∉ b :: us.map (·.1) → c.hp i = some x0 → ∀ k ∈ acc x0 (c.L i), ¬ Src c (b :: us.map (·.1)) k := by
    intro i x0 hi hx0 k hk ⟨b0, hb0, y0, h1, h2⟩
    exact s.disj i b0 x0 y0 (fun e => hi (e ▸ hb0)) hx0 h1 k hk h2
  have permUsed : ∀ y ∈ us, ∀ k ∈ (c.L y.1).top ++ (c.L y.1).fp, Perm (c.put b x us l w').hp (c.put b x us l w').L k := by
    intro y hy k hk
    obtain ⟨g, u, ts, e, own, cl, live, h1, h2⟩ := hu y hy
    have hok := s.blks _ _ h2
    have hlt : k < c.w.heap.size := (row_rep hok).lt k hk
    by_cases hp : Perm c.hp c.L k
    · exact step.perm hlt hp
    · have hin : k ∈ acc (.row g u ts e own cl live) (c.L y.1) := by
        cases live with
        | false => exact absurd (hok.2.1 rfl k hk) hp
        | true =>
          simp only [acc]
          rcases List.mem_append.1 hk with hk | hk
          · exact List.mem_append_left _ hk
          · cases own with
            | true => exact List.mem_append_right _ hk
            | false => exact absurd (hok.2.2.1 rfl rfl k hk) hp
      refine ⟨?_, s.apart _ _ h2 k hin⟩
      intro b' x' hx' hm
      by_cases hb' : b' ∈ b :: us.map (·.1)
      · rcases memW b' hb' with rfl | ⟨z, hz, rfl⟩
        · rw [hself] at hx'
          simp only [Option.some.injEq] at hx'
          subst hx'
          rw [hLb] at hm
          obtain ⟨x0, q1, q2⟩ := hhard k hm hlt
          exact s.disj y.1 b' _ _ (hne y hy) h2 q1 k hin (hard_acc (s.blks _ _ q1) k q2)
        · rw [hused z hz] at hx'
          obtain ⟨g', u', ts', e', own', cl', live', q1, q2⟩ := hu z hz
          simp only [Option.some.injEq] at hx'
          subst hx'
          rw [q1] at hm
          exact nomatch hm
      · obtain ⟨q1, q2⟩ := step.same b' hb'
        rw [q1] at hx'
        rw [q2] at hm
        exact s.disj y.1 b' _ _ (fun e => hb' (e ▸ List.mem_cons_of_mem _ (List.mem_map.2 ⟨y, hy, rfl⟩))) h2 hx' k hin (hard_acc (s.blks _ _ hx') k hm)
  exact {
    hp := rfl
    step := step
    val := hval step
    frame := hfr
    blks := fun i hi x' hx' => by
      rcases memW i hi with rfl | ⟨y, hy, rfl⟩
      · rw [hself] at hx'
        simp only [Option.some.injEq] at hx'
        subst hx'
        rw [hLb]
        exact hblk step
      · rw [hused y hy] at hx'
        obtain ⟨g, u, ts, e, own, cl, live, h1, h2⟩ := hu y hy
        simp only [Option.some.injEq] at hx'
        subst hx'
        rw [h1, hLo _ (hne y hy)]
        have hok := s.blks _ _ h2
        have hpu := permUsed y hy
        have hstill : ∀ k ∈ (c.L y.1).top ++ (c.L y.1).fp, w'.heap[k]? = c.w.heap[k]? := by
          intro k hk
          have hlt : k < c.w.heap.size := (row_rep hok).lt k hk
          refine hmem k hlt fun x0 hx0 hm => ?_
          by_cases hp : Perm c.hp c.L k
          · exact hp.1 b x0 hx0 hm
          · have hin : k ∈ acc (.row g u ts e own cl live) (c.L y.1) := by
              cases live with
              | false => exact absurd (hok.2.1 rfl k hk) hp
              | true =>
                simp only [acc]
                rcases List.mem_append.1 hk with hk | hk
                · exact List.mem_append_left _ hk
                · cases own with
                  | true => exact List.mem_append_right _ hk
                  | false => exact absurd (hok.2.2.1 rfl rfl k hk) hp
            exact s.disj y.1 b _ _ (hne y hy) h2 hx0 k hin (hard_acc (s.blks _ _ hx0) k hm)
        obtain ⟨⟨d, p1, p2⟩, p3, p4, p5, p6⟩ := hok
        refine ⟨⟨d, p1, ?_⟩, (fun _ => hpu), (fun h => nomatch h), (fun h => nomatch h), p6⟩
        rcases p2 with p2 | ⟨o', len, cap, vs, e1, e2, e3, e4, e5, e6, e7, e8⟩
        · exact .inl p2
        · have ht := hstill (c.L y.1).blk (by simp [Loc.top, e1])
          exact .inr ⟨o', len, cap, vs, e1, e2.alike ht, e3, e4, e5, (fun h => nomatch h), Nat.lt_of_lt_of_le e7 hsize, e8.alike fun k hk => hstill k (List.mem_append_right _ hk)⟩
    accs := fun i hi x' hx' k hk => by
      rcases memW i hi with rfl | ⟨y, hy, rfl⟩
      · rw [hself] at hx'
        simp only [Option.some.injEq] at hx'
        subst hx'
        rw [hLb] at hk
        exact hacc k hk
      · rw [hused y hy] at hx'
        obtain ⟨g, u, ts, e, own, cl, live, h1, h2⟩ := hu y hy
        simp only [Option.some.injEq] at hx'
        subst hx'
        rw [h1] at hk
        exact nomatch hk
    disj := fun i i' x1 x2 hi hi' hne' hx1 hx2 k hk hk' => by
      rcases memW i hi with rfl | ⟨y, hy, rfl⟩
      · rcases memW i' hi' with rfl | ⟨z, hz, rfl⟩
        · exact hne' rfl
        · rw [hused z hz] at hx2
          obtain ⟨g, u, ts, e, own, cl, live, h1, h2⟩ := hu z hz
          simp only [Option.some.injEq] at hx2
          subst hx2
          rw [h1] at hk'
          exact nomatch hk'
      · rw [hused y hy] at hx1
        obtain ⟨g, u, ts, e, own, cl, live, h1, h2⟩ := hu y hy
        simp only [Option.some.injEq] at hx1
        subst hx1
        rw [h1] at hk
        exact nomatch hk }

/-- What belongs to a name, or may be written by nobody, is written by nobody once the name is used up. -/
theorem perm_put {b : Nat} {x : Blk} {us : List (Nat × Blk)} {l : Loc} {w' : World} (s : Sim B c sl a) (hu : Used c us) (hne : ∀ y ∈ us, y.1 ≠ b)
    (st : Step c (c.put b x us l w') (b :: us.map (·.1))) (hhard : ∀ k ∈ hard x l, k < c.w.heap.size → ∃ x0, c.hp b = some x0 ∧ k ∈ hard x0 (c.L b))
    {k : Nat} (hlt : k < c.w.heap.size) (hk : Perm c.hp c.L k ∨ Src c (us.map (·.1)) k) : Perm (c.put b x us l w').hp (c.put b x us l w').L k := by
  rcases hk with hk | ⟨b0, hb0, x0, h1, h2⟩
  · exact st.perm hlt hk
  · obtain ⟨y, hy, rfl⟩ := List.mem_map.1 hb0
    refine ⟨?_, s.apart _ _ h1 k h2⟩
    intro b' x' hx' hm
    by_cases hbb : b' = b
    · subst hbb
      rw [put_self hne] at hx'
      simp only [Option.some.injEq] at hx'
      subst hx'
      simp only [Ctx.put, if_true] at hm
      obtain ⟨x1, q1, q2⟩ := hhard k hm hlt
      exact s.disj y.1 b' _ _ (hne y hy) h1 q1 k h2 (hard_acc (s.blks _ _ q1) k q2)
    · by_cases hbu : ∃ z ∈ us, z.1 = b'
      · obtain ⟨z, hz, rfl⟩ := hbu
        rw [put_used hu hne hz] at hx'
        obtain ⟨g', u', ts', e', own', cl', live', q1, q2⟩ := hu z hz
        simp only [Option.some.injEq] at hx'
        subst hx'
        rw [q1] at hm
        exact nomatch hm
      · rw [put_other hbb fun z hz e => hbu ⟨z, hz, e⟩] at hx'
        have hL : (c.put b x us l w').L b' = c.L b' := by simp [Ctx.put, hbb]
        rw [hL] at hm
        exact s.disj y.1 b' _ _ (fun e => hbu ⟨y, hy, e⟩) h1 hx' k h2 (hard_acc (s.blks _ _ hx') k hm)

/-! ### Boxes -/

theorem gen_le_lt {x : Option Blk} {g : Nat} (h : g < gen x) (e : g = gen x) : False := by omega

theorem alloc_heap {w : World} {ob : Obj} : (w.alloc ob).heap[w.heap.size]? = some ob := by unfold World.alloc; simp only [Array.getElem?_push_size]
theorem alloc_old {w : World} {ob : Obj} {k : Nat} (h : k < w.heap.size) : (w.alloc ob).heap[k]? = w.heap[k]? := by
  unfold World.alloc; simp only [Array.getElem?_push, if_neg (Nat.ne_of_lt h)]

/-- A new variable. -/
theorem newBox_ok (s : Sim B c sl a) {b : Nat} {cells : List AV} {vs : List Value} {t : TypeId} (hc : AVsOk c cells vs) (hr : (execOp a.eval o).run P c.w = .ok (.value (.pointer (some ⟨c.w.heap.size, 0, none⟩))) (c.w.alloc (.cells vs.toArray t))) :
    Does P o a c { val := .ptr b (gen (c.hp b)) 0, upd := [(b, .box (gen (c.hp b)) cells)] } := by
  refine does_value hr (eff_put (b := b) (us := []) (l := ⟨c.w.heap.size, .nilIface, []⟩) (w' := c.w.alloc (.cells vs.toArray t)) s (fun _ h => nomatch h) (fun _ h => nomatch h)
    (by unfold World.alloc; simp) ⟨rfl, rfl, rfl⟩ (fun k hk _ => alloc_old hk) (by simp [gen]) (fun _ _ _ _ _ _ _ _ h => by simp at h) (fun g' cells' hg h => ?_) (fun k hk => ?_) (fun k hk hlt => ?_) (fun st => ?_) (fun st => ?_))
  · simp only [Blk.box.injEq] at h
    exact (gen_le_lt hg h.1.symm).elim
  · simp only [acc, List.mem_singleton] at hk
    exact .inl (by omega)
  · simp only [hard, List.mem_singleton] at hk
    omega
  · exact ⟨vs, t, alloc_heap, AVsOk.step st s.blks s.disj _ _ hc⟩
  · refine ⟨⟨_, _, rfl⟩, ?_, fun cells' hx => ?_⟩
    · rw [put_self (by simp)]; simp [gen]
    · simp [Ctx.put]

theorem alloc_ok (s : Sim B c sl a) (hg : (c.den g).b = true) {t : TypeId} (ho : o.op = .alloc t)
    (h : (opEff P sigs clean g o).val sl c.hp = some e) : Does P o a c e := by
  simp only [opEff, ho, Rd.val_bind, Rd.val_opt] at h
  replace h := bind_some h; obtain ⟨z, hz, h⟩ := h
  simp only [Rd.val_blk, Option.bind_some, Rd.if_bind] at h
  obtain ⟨_, h⟩ := h
  simp at h; subst h
  obtain ⟨ts, i, zv, q1, q2, q3, q4, q5, q6, q7, q8⟩ := zeroOf_ok (c := c) hz
  exact newBox_ok (t := t) s q5 (by simp [execOp, ho, Instr.alloc, zeroValue, typeInfo, q2, q3, newVar, newRow])

theorem box_ok (s : Sim B c sl a) (hg : (c.den g).b = true) {t : TypeId} {x : Operand} (ho : o.op = .box t x)
    (h : (opEff P sigs clean g o).val sl c.hp = some e) : Does P o a c e := by
  simp only [opEff, ho, Rd.val_bind, Rd.val_opt] at h
  replace h := bind_some h; obtain ⟨ts, hts, h⟩ := h
  replace h := bind_some h; obtain ⟨v, hv, h⟩ := h
  have vx := evalG_ok s hg hv
  simp only [Rd.val_blk, Option.bind_some, Rd.if_bind, Bool.and_eq_true, decide_eq_true_eq] at h
  obtain ⟨⟨⟨hp, _⟩, _⟩, h⟩ := h
  simp at h; subst h
  exact newBox_ok (t := t) s (cells_ok vx hp) (by simp [execOp, ho, Instr.box, newVar, newRow])

/-! ### What is put into a row -/

/-- The data of some expressions. -/
def Ctx.dens (c : Ctx) (es : List E) : List D := denL c.Γ c.ρ es
theorem dens_nil : c.dens [] = [] := rfl
theorem dens_cons {x : E} {es : List E} : c.dens (x :: es) = c.den x :: c.dens es := rfl
theorem dens_append {es fs : List E} : c.dens (es ++ fs) = c.dens es ++ c.dens fs := by
  induction es with
  | nil => rfl
  | cons x es ih => simp only [List.cons_append, dens_cons, ih]
theorem dens_len {es : List E} : (c.dens es).length = es.length := by
  induction es with
  | nil => rfl
  | cons x es ih => simp only [List.length_cons, dens_cons, ih]

/-- What may be said of the blocks that a value reads, when it is put into a row. -/
structure Took (c : Ctx) (own : Bool) (us : List (Nat × Blk)) (fp : List Nat) : Prop where
  used : Used c us
  from_ : ∀ k ∈ fp, Perm c.hp c.L k ∨ Src c (us.map (·.1)) k
  own_ : own = true → fp.Nodup ∧ ∀ k ∈ fp, Src c (us.map (·.1)) k

theorem Took.nil {own : Bool} : Took c own [] [] := ⟨(fun _ h => nomatch h), (fun _ h => nomatch h), fun _ => ⟨List.nodup_nil, (fun _ h => nomatch h)⟩⟩
theorem Took.read {fp : List Nat} (h : ∀ k ∈ fp, Perm c.hp c.L k) : Took c false [] fp := ⟨(fun _ h => nomatch h), (fun k hk => .inl (h k hk)), (fun h => nomatch h)⟩

theorem fresh_ne {u us : List (Nat × Blk)} (h : fresh u us = true) : ∀ x ∈ u, ∀ y ∈ us, x.1 ≠ y.1 := by
  simpa [fresh] using h

theorem src_apart (s : Sim B c sl a) {N M : List Nat} (h : ∀ x ∈ N, ∀ y ∈ M, x ≠ y) {k : Nat} (h1 : Src c N k) (h2 : Src c M k) : False := by
  obtain ⟨b, hb, x, p1, p2⟩ := h1
  obtain ⟨b', hb', x', q1, q2⟩ := h2
  exact s.disj b b' x x' (h b hb b' hb') p1 q1 k p2 q2

theorem Took.append (s : Sim B c sl a) {o1 o2 : Bool} {u us : List (Nat × Blk)} {f g : List Nat} (h1 : Took c o1 u f) (h2 : Took c o2 us g) (hf : fresh u us = true) : Took c (o1 && o2) (u ++ us) (f ++ g) where
  used := fun y hy => by
    rcases List.mem_append.1 hy with hy | hy
    · exact h1.used y hy
    · exact h2.used y hy
  from_ := fun k hk => by
    rcases List.mem_append.1 hk with hk | hk
    · rcases h1.from_ k hk with h | h
      · exact .inl h
      · exact .inr (h.mono fun b hb => by simp only [List.map_append, List.mem_append]; exact .inl hb)
    · rcases h2.from_ k hk with h | h
      · exact .inl h
      · exact .inr (h.mono fun b hb => by simp only [List.map_append, List.mem_append]; exact .inr hb)
  own_ := fun ho => by
    simp only [Bool.and_eq_true] at ho
    obtain ⟨n1, p1⟩ := h1.own_ ho.1
    obtain ⟨n2, p2⟩ := h2.own_ ho.2
    refine ⟨List.nodup_append.2 ⟨n1, n2, fun x hx y hy e => ?_⟩, fun k hk => ?_⟩
    · subst e
      refine src_apart s (fun p hp q hq => ?_) (p1 x hx) (p2 x hy)
      obtain ⟨p', hp', rfl⟩ := List.mem_map.1 hp
      obtain ⟨q', hq', rfl⟩ := List.mem_map.1 hq
      exact fresh_ne hf p' hp' q' hq'
    · rcases List.mem_append.1 hk with hk | hk
      · exact (p1 k hk).mono fun b hb => by simp only [List.map_append, List.mem_append]; exact .inl hb
      · exact (p2 k hk).mono fun b hb => by simp only [List.map_append, List.mem_append]; exact .inr hb

/-- The blocks of a row that is used up. -/
theorem row_took (s : Sim B c sl a) {b g u : Nat} {ts : List Ty} {ex : E} {own cl live : Bool} (hb : c.hp b = some (.row g u ts ex own cl live)) :
    ∀ k ∈ (c.L b).top ++ (c.L b).fp, Perm c.hp c.L k ∨ Src c [b] k := by
  intro k hk
  have hok := s.blks _ _ hb
  cases live with
  | false => exact .inl (hok.2.1 rfl k hk)
  | true =>
    rcases List.mem_append.1 hk with hk | hk
    · exact .inr ⟨b, List.mem_singleton.2 rfl, _, hb, List.mem_append_left _ hk⟩
    · cases own with
      | false => exact .inl (hok.2.2.1 rfl rfl k hk)
      | true => exact .inr ⟨b, List.mem_singleton.2 rfl, _, hb, List.mem_append_right _ hk⟩

theorem rep_own {ow : Bool} {t : Ty} {v : Value} {d : D} {f : List Nat} {w : World} (h : Rep w ow t v d f) (hs : isSl t = false) : Rep w true t v d f ∧ f = [] := by
  cases h <;> first
    | exact ⟨.int (by assumption), rfl⟩
    | exact ⟨.bool, rfl⟩
    | exact ⟨.str (by assumption), rfl⟩
    | exact ⟨.err0, rfl⟩
    | exact ⟨.err1, rfl⟩
    | simp [isSl] at hs

theorem Rep.weak {w : World} {ow own : Bool} {t : Ty} {v : Value} {d : D} {f : List Nat} (h : Rep w ow t v d f) (hle : own = true → ow = true) : Rep w own t v d f := by
  cases own with
  | false => exact h.ro
  | true => rw [hle rfl] at h; exact h
theorem RepC.weak {w : World} {ow own : Bool} {t : List Ty} {v : List Value} {d : List D} {f : List Nat} (h : RepC w ow t v d f) (hle : own = true → ow = true) : RepC w own t v d f := by
  cases own with
  | false => exact h.ro
  | true => rw [hle rfl] at h; exact h
theorem RepL.weak {w : World} {ow own : Bool} {t : List Ty} {v : List Value} {d : List (List D)} {f : List Nat} (h : RepL w ow t v d f) (hle : own = true → ow = true) : RepL w own t v d f := by
  cases own with
  | false => exact h.ro
  | true => rw [hle rfl] at h; exact h

theorem takeCell_ok (s : Sim B c sl a) {sl0 : Nat → AV} {t : Ty} {x : AV} {v : Value} (hv : AVOk c x v) {q : E × Bool × List (Nat × Blk)} (h : (takeCell t x).val sl0 c.hp = some q) :
    ∃ fp, Rep c.w q.2.1 t v (c.den q.1) fp ∧ Took c q.2.1 q.2.2 fp ∧ v.oneCell' = true := by
  unfold takeCell at h
  split at h
  · simp at h; subst h
    rw [hv]
    exact ⟨[], .nil, Took.nil, rfl⟩
  · rename_i ts ts' ex
    simp only [Rd.val_bind, Rd.if_bind] at h
    obtain ⟨h1, h⟩ := h
    simp at h; subst h
    obtain ⟨fp, hr, hp⟩ := hv
    rw [Ty.eqL h1] at hr
    obtain ⟨p, k, e1, _⟩ := rep_slice hr
    exact ⟨fp, hr, Took.read hp, by rw [e1]; rfl⟩
  · rename_i ts b g'
    simp only [Rd.val_bind, Rd.val_blk, Option.bind_some] at h
    split at h
    case h_2 => simp at h
    rename_i g'' u ts' ex own cl live hb
    simp only [Rd.val_bind, Rd.if_bind, Bool.and_eq_true, beq_iff_eq] at h
    obtain ⟨⟨rfl, h1⟩, h⟩ := h
    simp at h; subst h
    have hbk := s.blks _ _ hb
    have hhv := hv.2.2 _ _ _ _ _ _ hb
    obtain ⟨_, _, _, hsl⟩ := hv.1
    have hused : Used c [(b, .row g'' u ts' ex own cl false)] := fun y hy => by
      rw [List.mem_singleton.1 hy]
      exact ⟨_, _, _, _, _, _, _, rfl, hb⟩
    refine ⟨(c.L b).top ++ (c.L b).fp, ?_, ⟨hused, row_took s hb, fun ho => ?_⟩, by rw [hsl]; rfl⟩
    · rw [hhv, ← Ty.eqL h1]
      cases ho : own && live with
      | false => exact row_rep hbk
      | true =>
        simp only [Bool.and_eq_true] at ho
        obtain ⟨rfl, rfl⟩ := ho
        exact row_rep_own hbk
    · simp only [Bool.and_eq_true] at ho
      obtain ⟨rfl, rfl⟩ := ho
      exact ⟨hbk.2.2.2.1 rfl rfl, fun k hk => ⟨b, List.mem_singleton.2 rfl, _, hb, hk⟩⟩
  · rename_i ts b g' lo hi
    simp only [Rd.val_bind, Rd.val_blk, Option.bind_some] at h
    split at h
    case h_2 => simp at h
    rename_i g'' u ts' ex own cl live hb
    simp only [Rd.val_bind, Rd.if_bind, Bool.and_eq_true, beq_iff_eq] at h
    obtain ⟨⟨rfl, h1⟩, h⟩ := h
    simp at h; subst h
    have hbk := s.blks _ _ hb
    obtain ⟨l, hh, a1, a2, a3⟩ := hv.2.2 _ _ _ _ _ _ hb
    obtain ⟨_, _, _, hsl⟩ := hv.1
    have hused : Used c [(b, .row g'' u ts' ex own cl false)] := fun y hy => by
      rw [List.mem_singleton.1 hy]
      exact ⟨_, _, _, _, _, _, _, rfl, hb⟩
    obtain ⟨d, hd⟩ := RowOk.isSl hbk
    have hr := row_rep hbk
    rw [hd] at hr
    obtain ⟨f, hsub, hf⟩ := part_rep hr a3
    refine ⟨f, ?_, ⟨hused, fun k hk => row_took s hb k (hsub.subset hk), fun ho => nomatch ho⟩, by rw [hsl]; rfl⟩
    rw [den_slice a1 a2, hd, ← Ty.eqL h1]
    exact hf
  · rename_i ts b g' u i j ts0
    simp only [Rd.val_bind, Rd.val_blk, Option.bind_some] at h
    split at h
    case h_2 => simp at h
    rename_i g'' u' tsr ex own hb
    simp only [Rd.val_bind, Rd.if_bind, Bool.and_eq_true, beq_iff_eq] at h
    obtain ⟨⟨⟨rfl, rfl⟩, h1⟩, h⟩ := h
    simp at h; subst h
    obtain ⟨a1, a2⟩ := hv.2.2 _ _ _ _ _ hb
    obtain ⟨_, _, _, hsl⟩ := hv.1
    obtain ⟨b1, n, b2, b3⟩ := a2 rfl
    obtain ⟨f, hf, hsub⟩ := cellAt_rep (s.blks _ _ hb) b3 b1
    refine ⟨f, ?_, Took.read fun k hk => low_perm s hb k (hsub k hk), by rw [hsl]; rfl⟩
    rw [den_cell b2, ← Ty.eqL h1]
    exact hf.ro
  · rename_i t t' ex
    simp only [Rd.val_bind, Rd.if_bind] at h
    obtain ⟨h1, h⟩ := h
    simp at h; subst h
    have := Ty.eq_of_beq h1
    subst this
    obtain ⟨h2, h3⟩ := hv
    refine ⟨[], (rep_own h3 h2).1, Took.nil, ?_⟩
    generalize c.den ex = dd at h3
    cases h3 <;> rfl
  · simp at h

theorem takeCells_ok (s : Sim B c sl a) {sl0 : Nat → AV} : ∀ {ts : List Ty} {xs : List AV} {vs : List Value} {q : List E × Bool × List (Nat × Blk)}, AVsOk c xs vs → (takeCells ts xs).val sl0 c.hp = some q →
    ∃ fp, RepC c.w q.2.1 ts vs (c.dens q.1) fp ∧ Took c q.2.1 q.2.2 fp ∧ ∀ v ∈ vs, v.oneCell' = true
  | [], [], vs, q, hv, h => by
    simp [takeCells] at h; subst h
    cases vs with
    | nil => exact ⟨[], .nil, Took.nil, fun _ h => nomatch h⟩
    | cons v vs => exact hv.elim
  | t :: ts, x :: xs, vs, q, hv, h => by
    simp only [takeCells, Rd.val_bind] at h
    replace h := bind_some h; obtain ⟨⟨e1, o1, u1⟩, h1, h⟩ := h
    replace h := bind_some h; obtain ⟨⟨e2, o2, u2⟩, h2, h⟩ := h
    simp only [Rd.val_bind, Rd.if_bind] at h
    obtain ⟨hf, h⟩ := h
    simp at h; subst h
    cases vs with
    | nil => exact hv.elim
    | cons v vs =>
      obtain ⟨f1, r1, k1, p1⟩ := takeCell_ok s hv.1 h1
      obtain ⟨f2, r2, k2, p2⟩ := takeCells_ok s hv.2 h2
      refine ⟨f1 ++ f2, .cons (r1.weak fun h => ?_) (r2.weak fun h => ?_), k1.append s k2 hf, fun u hu => ?_⟩
      · simp only [Bool.and_eq_true] at h; exact h.1
      · simp only [Bool.and_eq_true] at h; exact h.2
      · rcases List.mem_cons.1 hu with rfl | hu
        · exact p1
        · exact p2 _ hu
  | [], _ :: _, _, _, _, h | _ :: _, [], _, _, _, h => by simp [takeCells] at h

/-- A new row. -/
theorem newRow_ok (s : Sim B c sl a) {b : Nat} {ts : List Ty} {er : E} {d : List (List D)} {own : Bool} {us : List (Nat × Blk)} {fp : List Nat} {w' : World} {need : List Need} {len cap : Nat} {vs rest : List Value} {t : TypeId}
    (hne : ∀ y ∈ us, y.1 ≠ b) (hd : c.den er = .sl d) (hrep : RepL c.w own ts vs d fp) (hlen : d.length = len) (hcap : len ≤ cap) (hcap' : cap < 9223372036854775808) (hroom : cap * ts.length ≤ vs.length + rest.length)
    (htook : Took c own us fp) (hw : w' = c.w.alloc (.cells (vs ++ rest).toArray t) ∨ w' = c.w.drew.alloc (.cells (vs ++ rest).toArray t))
    (hr : (execOp a.eval o).run P c.w = .ok (.value (.slice (some ⟨c.w.heap.size, 0, none⟩) len cap)) w') :
    Does P o a c { val := .row b (gen (c.hp b)), upd := (b, .row (gen (c.hp b)) 0 ts er own false true) :: us, need := need } := by
  have hold : ∀ k, k < c.w.heap.size → w'.heap[k]? = c.w.heap[k]? := by
    intro k hk
    rcases hw with rfl | rfl
    · exact alloc_old hk
    · exact alloc_old (w := c.w.drew) hk
  have hnew : w'.heap[c.w.heap.size]? = some (.cells (vs ++ rest).toArray t (0, 0)) := by
    rcases hw with rfl | rfl
    · exact alloc_heap
    · exact alloc_heap (w := c.w.drew)
  have hsz : w'.heap.size = c.w.heap.size + 1 := by
    rcases hw with rfl | rfl
    · unfold World.alloc; simp only [Array.size_push]
    · unfold World.alloc; simp only [Array.size_push]; rfl
  have hlt := hrep.lt
  have htop : (⟨c.w.heap.size, .slice (some ⟨c.w.heap.size, 0, none⟩) len cap, fp⟩ : Loc).top = [c.w.heap.size] := rfl
  have hhard : ∀ k ∈ hard (.row (gen (c.hp b)) 0 ts er own false true) ⟨c.w.heap.size, .slice (some ⟨c.w.heap.size, 0, none⟩) len cap, fp⟩, k < c.w.heap.size → ∃ x0, c.hp b = some x0 ∧ k ∈ hard x0 (c.L b) := by
    intro k hk h
    simp only [hard, htop, Bool.false_eq_true, if_false, List.append_nil, List.mem_singleton] at hk
    omega
  refine does_value hr (eff_put (b := b) (l := ⟨c.w.heap.size, .slice (some ⟨c.w.heap.size, 0, none⟩) len cap, fp⟩) (w' := w') s htook.used hne
    (by omega) (by rcases hw with rfl | rfl <;> exact ⟨rfl, rfl, rfl⟩) (fun k hk _ => hold k hk) (by simp [gen]) (fun _ _ _ _ _ _ _ hg h => ?_) (fun _ _ _ h => by simp at h) (fun k hk => ?_) hhard (fun st => ?_) (fun st => ?_))
  · simp only [Blk.row.injEq] at h
    exact (gen_le_lt hg h.1.symm).elim
  · simp only [acc, htop] at hk
    rcases List.mem_append.1 hk with hk | hk
    · exact .inl (by rw [List.mem_singleton.1 hk]; exact Nat.le_refl _)
    · cases own with
      | false => exact nomatch hk
      | true => exact .inr (((htook.own_ rfl).2 k hk).mono fun x hx => List.mem_cons_of_mem _ hx)
  · refine ⟨⟨d, by rw [st.den]; exact hd, .inr ⟨0, len, cap, vs, rfl, fun k hk => ?_, hlen, hcap, hcap', fun _ => ⟨_, _, hnew, by simp; omega⟩, by show c.w.heap.size < w'.heap.size; omega, hrep.alike fun k hk => hold k (hlt k hk)⟩⟩,
      (fun h => nomatch h), fun _ ho k hk => perm_put s htook.used hne st hhard (hlt k hk) (htook.from_ k hk), fun _ ho => ?_, fun h => nomatch h⟩
    · show w'.cell? _ = _
      rw [cell_of_row _ _ _ _ _ _ hnew]
      simp [List.getElem?_append_left hk]
    · subst ho
      obtain ⟨n1, n2⟩ := htook.own_ rfl
      rw [htop]
      exact List.nodup_cons.2 ⟨fun hm => by have := hlt _ hm; omega, n1⟩
  · refine ⟨⟨_, _, _, rfl⟩, ?_, fun u ts' e' own' clean' live' hx => by simp [Ctx.put]⟩
    rw [put_self hne]; simp [gen]

theorem repTys_len {ts : List Ty} : ∀ {n : Nat}, (repTys ts n).length = n * ts.length
  | 0 => by simp [repTys]
  | n + 1 => by simp [repTys, repTys_len (n := n), Nat.add_mul]; omega

/-- Elements out of cells. -/
theorem chunks_rep {w : World} {ow : Bool} {ts : List Ty} : ∀ {n : Nat} {vs : List Value} {ds : List D} {fp : List Nat}, RepC w ow (repTys ts n) vs ds fp → RepL w ow ts vs (chunks ts.length n ds) fp
  | 0, vs, ds, fp, h => by
    simp only [repTys] at h
    cases h
    exact .nil
  | n + 1, vs, ds, fp, h => by
    have key : ∀ (as : List Ty) {vs : List Value} {ds : List D} {fp : List Nat}, RepC w ow (as ++ repTys ts n) vs ds fp →
        ∃ v1 v2 f1 f2, vs = v1 ++ v2 ∧ fp = f1 ++ f2 ∧ RepC w ow as v1 (ds.take as.length) f1 ∧ RepC w ow (repTys ts n) v2 (ds.drop as.length) f2 := by
      intro as
      induction as with
      | nil => intro vs ds fp h; exact ⟨[], vs, [], fp, rfl, rfl, by simpa using .nil, by simpa using h⟩
      | cons t as ih =>
        intro vs ds fp h
        cases h with
        | cons h1 h2 =>
          obtain ⟨v1, v2, f1, f2, rfl, rfl, a1, a2⟩ := ih h2
          exact ⟨_ :: v1, v2, _ ++ f1, f2, rfl, (List.append_assoc ..).symm, by simpa using RepC.cons h1 a1, by simpa using a2⟩
    obtain ⟨v1, v2, f1, f2, rfl, rfl, a1, a2⟩ := key ts h
    exact .cons a1 (chunks_rep a2)

theorem chunks_len {m : Nat} : ∀ {n : Nat} {l : List D}, (chunks m n l).length = n
  | 0, _ => rfl
  | n + 1, l => by simp [chunks, chunks_len (n := n)]

theorem fill_lit {size : Nat} : ∀ {pvs : List (Nat × Value)} {n : Nat} {cells : Array Value}, cells.size = n * size → (∀ y ∈ pvs, y.1 < n ∧ y.2.cells.size = size) → distinct (pvs.map (·.1)) = true →
    ∃ out, Instr.fill (fun i => some (i * size, size)) cells pvs = some out ∧ out.size = n * size ∧
      ∀ i, i < n → (out.toList.drop (i * size)).take size = match pvs.find? (fun x => x.1 == i) with
        | some (_, v) => v.cells.toList
        | none => (cells.toList.drop (i * size)).take size
  | [], n, cells, hs, _, _ => ⟨cells, rfl, hs, fun i _ => rfl⟩
  | (j, v) :: pvs, n, cells, hs, hp, hd => by
    simp only [List.map_cons, distinct, Bool.and_eq_true, Bool.not_eq_true', List.contains_eq_mem] at hd
    have h0 := hp _ (List.mem_cons_self ..)
    simp only at h0
    have hjn : (j + 1) * size ≤ n * size := Nat.mul_le_mul_right _ h0.1
    rw [Nat.add_mul, Nat.one_mul] at hjn
    have hl := setpart_list (j * size) v.cells.toList cells (by simp [h0.2, hs]; omega)
    have hsz : ((v.cells.zipIdx).foldl (fun cs (x : Value × Nat) => cs.setIfInBounds (j * size + x.2) x.1) cells).size = n * size := by
      have := congrArg List.length hl
      simp only [Array.length_toList, List.length_append, List.length_take, List.length_drop, Array.toArray_toList, h0.2, hs] at this
      rw [this]
      omega
    obtain ⟨out, h1, h2, h3⟩ := fill_lit (pvs := pvs) (n := n) (cells := (v.cells.zipIdx).foldl (fun cs (x : Value × Nat) => cs.setIfInBounds (j * size + x.2) x.1) cells) hsz (fun y hy => hp y (List.mem_cons_of_mem _ hy)) hd.2
    refine ⟨out, ?_, h2, fun i hi => ?_⟩
    · unfold Instr.fill
      simp only
      rw [if_neg (by simp [h0.2, hs]; omega)]
      exact h1
    · rw [h3 i hi]
      simp only [Array.toArray_toList] at hl
      by_cases hij : j = i
      · subst hij
        have hnone : pvs.find? (fun x => x.1 == j) = none := by
          rw [List.find?_eq_none]
          intro y hy hyj
          simp only [beq_iff_eq] at hyj
          have : j ∈ pvs.map (·.1) := List.mem_map.2 ⟨y, hy, hyj⟩
          simp [this] at hd
        rw [hnone]
        simp only [List.find?_cons_of_pos, beq_self_eq_true]
        rw [hl, List.append_assoc]
        have e1 : (cells.toList.take (j * size)).length = j * size := by rw [List.length_take, Array.length_toList, hs]; omega
        rw [List.drop_append_of_le_length (by omega), List.drop_of_length_le (by omega), List.nil_append, List.take_append_of_le_length (by simp [h0.2]), List.take_of_length_le (by simp [h0.2])]
      · have hne : ¬ ((j, v).1 == i) = true := by simpa using hij
        rw [show ((j, v) :: pvs).find? (fun x => x.1 == i) = pvs.find? (fun x => x.1 == i) from List.find?_cons_of_neg hne]
        split
        · rfl
        · rw [hl]
          apply List.ext_getElem?
          intro m
          by_cases hm : m < size
          · rw [List.getElem?_take_of_lt hm, List.getElem?_take_of_lt hm, List.getElem?_drop, List.getElem?_drop]
            rcases Nat.lt_or_gt_of_ne hij with h | h
            · have : (j + 1) * size ≤ i * size := Nat.mul_le_mul_right _ h
              rw [Nat.add_mul, Nat.one_mul] at this
              rw [List.getElem?_append_right (by simp only [List.length_append, List.length_take, List.length_drop, Array.length_toList, h0.2, hs]; omega), List.getElem?_drop]
              congr 1
              simp only [List.length_append, List.length_take, List.length_drop, Array.length_toList, h0.2, hs]; omega
            · have : (i + 1) * size ≤ j * size := Nat.mul_le_mul_right _ h
              rw [Nat.add_mul, Nat.one_mul] at this
              rw [List.append_assoc, List.getElem?_append_left (by simp only [List.length_append, List.length_take, List.length_drop, Array.length_toList, h0.2, hs]; omega), List.getElem?_take_of_lt (by omega)]
          · rw [List.getElem?_eq_none (by simp only [List.length_take]; omega), List.getElem?_eq_none (by simp only [List.length_take]; omega)]

theorem lit_ok {size : Nat} {zero : List AV} {zs : List Value} {parts : List (Nat × AV)} {pvs : List (Nat × Value)} (hi : parts.map (·.1) = pvs.map (·.1)) (hp : AVsOk c (parts.map (·.2)) (pvs.map (·.2))) (hpl : ∀ x ∈ parts, x.2.plain = true) (hz : AVsOk c zero zs)
    {out : List Value} : ∀ {n : Nat} {l : List AV}, litCells size zero parts n = some l →
      (∀ i, i < n → (out.drop (i * size)).take size = match pvs.find? (fun x => x.1 == i) with
        | some (_, v) => v.cells.toList
        | none => zs) → AVsOk c l (out.take (n * size))
  | 0, l, h, _ => by simp [litCells] at h; subst h; rw [Nat.zero_mul, List.take_zero]; exact trivial
  | n + 1, l, h, ho => by
    unfold litCells at h
    split at h
    case h_1 => simp at h
    rename_i l' hl'
    have ih := lit_ok hi hp hpl hz hl' fun i h => ho i (by omega)
    have hn := ho n (by omega)
    have find : ∀ {ps : List (Nat × AV)} {qs : List (Nat × Value)}, ps.map (·.1) = qs.map (·.1) → AVsOk c (ps.map (·.2)) (qs.map (·.2)) → (∀ x ∈ ps, x.2.plain = true) →
        AVsOk c (litAt zero ps n) (match qs.find? (fun x => x.1 == n) with
          | some (_, v) => v.cells.toList
          | none => zs) := by
      intro ps
      induction ps with
      | nil =>
        intro qs hi hp hpl
        cases qs with
        | nil => exact hz
        | cons q qs => simp at hi
      | cons p ps ih =>
        intro qs hi hp hpl
        cases qs with
        | nil => simp at hi
        | cons q qs =>
          simp only [List.map_cons, List.cons.injEq] at hi
          by_cases hpn : p.1 = n
          · rw [litAt, List.find?_cons_of_pos (by simpa using hpn), List.find?_cons_of_pos (by rw [← hi.1]; simpa using hpn)]
            exact cells_ok hp.1 (hpl _ (List.mem_cons_self ..))
          · rw [litAt, List.find?_cons_of_neg (by simpa using hpn), List.find?_cons_of_neg (by rw [← hi.1]; simpa using hpn)]
            exact ih hi.2 hp.2 fun x hx => hpl x (List.mem_cons_of_mem _ hx)
    have hf := find hi hp hpl
    split at h
    case isFalse => simp at h
    rename_i hsz
    simp at h; subst h
    rw [← hn] at hf
    have := avs_append ih hf
    rwa [Nat.add_mul, Nat.one_mul, List.take_add]

theorem range_zeros {z : Array Value} {n size : Nat} (hz : z.size = size) (h0 : 0 < size) {i : Nat} (hi : i < n) :
    ((((Array.range (n * size)).map (z[· % z.size]!)).toList.drop (i * size)).take size) = z.toList := by
  have hle : (i + 1) * size ≤ n * size := Nat.mul_le_mul_right _ hi
  rw [Nat.add_mul, Nat.one_mul] at hle
  apply List.ext_getElem?
  intro m
  by_cases hm : m < size
  · rw [List.getElem?_take_of_lt hm, List.getElem?_drop]
    have hlt : i * size + m < n * size := by omega
    have e1 : (i * size + m) % size = m := by rw [Nat.add_comm, Nat.add_mul_mod_self_right, Nat.mod_eq_of_lt hm]
    simp [hlt, hz, e1]
    have : m < z.size := by omega
    simp [this]
  · rw [List.getElem?_eq_none (by simp; omega), List.getElem?_eq_none (by simp; omega)]

theorem den_app {f : F} {es : List E} : c.den (.app f es) = evalF c.Γ f (c.dens es) := rfl

theorem buildSlice_ok (s : Sim B c sl a) (hg : (c.den g).b = true) {t : TypeId} {n : Nat} {parts : Array (Nat × Operand)} (ho : o.op = .buildSlice t n parts)
    (h : (opEff P sigs clean g o).val sl c.hp = some e) : Does P o a c e := by
  simp only [opEff, ho, Rd.val_bind, Rd.val_opt] at h
  replace h := bind_some h; obtain ⟨⟨et, ts⟩, he, h⟩ := h
  simp only [Rd.val_bind, Rd.val_opt, Rd.if_bind, Bool.and_eq_true, decide_eq_true_eq] at h
  obtain ⟨⟨_, hsm⟩, h⟩ := h
  replace h := bind_some h; obtain ⟨z, hz, h⟩ := h
  replace h := bind_some h; obtain ⟨vs, hvs, h⟩ := h
  simp only [Rd.val_bind, Rd.val_opt, Rd.if_bind, Bool.and_eq_true, decide_eq_true_eq, List.all_eq_true, Bool.not_eq_true', List.isEmpty_eq_false_iff] at h
  obtain ⟨⟨⟨hall, hdis⟩, hts⟩, h⟩ := h
  replace h := bind_some h; obtain ⟨cs, hcs, h⟩ := h
  replace h := bind_some h; obtain ⟨⟨es, own, us⟩, htk, h⟩ := h
  simp only [Rd.val_blk, Option.bind_some, Rd.if_bind, Rd.val_bind, List.all_eq_true, Bool.not_eq_true', beq_eq_false_iff_ne] at h
  obtain ⟨hne, h⟩ := h
  simp at h; subst h
  obtain ⟨hu, ht⟩ := elemOf_spec he
  obtain ⟨ts', i, zv, q1, q2, q3, q4, q5, q6, q7, q8⟩ := zeroOf_ok (c := c) hz
  rw [ht] at q1
  simp only [Option.some.injEq] at q1
  subst q1
  obtain ⟨m1, m2⟩ := mapRd_parts s hg hvs
  have hpos : 0 < ts.length := List.length_pos_iff.2 hts
  have hzs : zv.cells.size = ts.length := by
    have := avs_len q5
    simpa [q6] using this
  have hps : ∀ y ∈ (parts.toList.map fun (i, x) => (i, a.eval x)), y.1 < n ∧ y.2.cells.size = ts.length := by
    -- each part's cells: from the list that is written out
    have key : ∀ {n : Nat} {l : List AV}, litCells ts.length z vs n = some l → ∀ i, i < n → (litAt z vs i).length = ts.length := by
      intro n
      induction n with
      | zero => intro l _ i hi; omega
      | succ n ih =>
        intro l h i hi
        unfold litCells at h
        split at h
        case h_1 => simp at h
        rename_i l' hl'
        split at h
        case isFalse => simp at h
        rename_i hsz
        by_cases hin : i = n
        · subst hin; exact hsz
        · exact ih hl' i (by omega)
    have hk := key hcs
    intro y hy
    have gen : ∀ {ps : List (Nat × AV)} {qs : List (Nat × Value)}, ps.map (·.1) = qs.map (·.1) → AVsOk c (ps.map (·.2)) (qs.map (·.2)) → (∀ x ∈ ps, x.1 < n ∧ x.2.plain = true ∧ x.2.cells.length = ts.length) →
        ∀ y ∈ qs, y.1 < n ∧ y.2.cells.size = ts.length := by
      intro ps
      induction ps with
      | nil =>
        intro qs hi hp hpl y hy
        cases qs with
        | nil => exact nomatch hy
        | cons q qs => simp at hi
      | cons p ps ih =>
        intro qs hi hp hpl y hy
        cases qs with
        | nil => simp at hi
        | cons q qs =>
          simp only [List.map_cons, List.cons.injEq] at hi
          obtain ⟨k1, k2, k3⟩ := hpl _ (List.mem_cons_self ..)
          rcases List.mem_cons.1 hy with rfl | hy
          · refine ⟨by rw [← hi.1]; exact k1, ?_⟩
            have := avs_len (cells_ok hp.1 k2)
            rw [← Array.length_toList, this, k3]
          · exact ih hi.2 hp.2 (fun x hx => hpl x (List.mem_cons_of_mem _ hx)) y hy
    have find : ∀ {ps : List (Nat × AV)}, distinct (ps.map (·.1)) = true → ∀ x ∈ ps, litAt z ps x.1 = x.2.cells := by
      intro ps
      induction ps with
      | nil => intro _ x hx; exact nomatch hx
      | cons p ps ih =>
        intro hd x hx
        simp only [List.map_cons, distinct, Bool.and_eq_true, Bool.not_eq_true', List.contains_eq_mem] at hd
        rcases List.mem_cons.1 hx with rfl | hx
        · rw [litAt, List.find?_cons_of_pos (by simp)]
        · have : p.1 ≠ x.1 := by
            intro e
            have : p.1 ∈ ps.map (·.1) := by rw [e]; exact List.mem_map.2 ⟨x, hx, rfl⟩
            simp [this] at hd
          rw [litAt, List.find?_cons_of_neg (by simpa using this)]
          exact ih hd.2 x hx
    exact gen m1 m2 (fun x hx => ⟨(hall x hx).1, (hall x hx).2, by rw [← find hdis x hx]; exact hk _ (hall x hx).1⟩) y hy
  obtain ⟨out, f1, f2, f3⟩ := fill_lit (pvs := parts.toList.map fun (i, x) => (i, a.eval x)) (n := n) (cells := (Array.range (n * ts.length)).map (zv.cells[· % zv.cells.size]!)) (by simp) hps (by rw [← m1]; exact hdis)
  have hok := lit_ok m1 m2 (fun x hx => (hall x hx).2) q5 (out := out.toList) hcs (fun i hi => by rw [f3 i hi, range_zeros hzs hpos hi])
  rw [List.take_of_length_le (by simp [f2])] at hok
  obtain ⟨fp, r1, r2, r3⟩ := takeCells_ok s hok htk
  have hd : c.den (if n = 0 then E.nil else .app (.mk ts.length) es) = .sl (chunks ts.length n (c.dens es)) := by
    split
    · rename_i h0; subst h0; rfl
    · rw [den_app]
      have hl : (c.dens es).length = n * ts.length := by rw [r1.len.2, repTys_len]
      simp only [evalF]
      rw [hl, Nat.mul_div_cancel _ hpos]
  have hpl : (parts.map fun (i, x) => (i, a.eval x)).toList = parts.toList.map fun (i, x) => (i, a.eval x) := by simp
  refine newRow_ok (len := n) (cap := n) (vs := out.toList) (rest := []) (t := et) s (fun y hy => hne y hy) hd (chunks_rep r1) chunks_len (Nat.le_refl _) (by
      have : n * 1 ≤ n * ts.length := Nat.mul_le_mul_left _ hpos
      omega) (by simp [f2]) r2 (.inl rfl) ?_
  have hrun : (Instr.buildSlice t n (parts.map fun (i, x) => (i, a.eval x))).run P c.w = .ok (.slice (some ⟨c.w.heap.size, 0, none⟩) n n) (c.w.alloc (.cells out et)) := by
    rw [← q4] at f1 hpos
    by_cases h0 : n * i.size = 0
    · have hn0 : n = 0 := by
        rcases Nat.mul_eq_zero.1 h0 with h | h
        · exact h
        · omega
      subst hn0
      have f1' : Instr.fill (fun j => some (j * i.size, i.size)) (Array.map (fun x => default) (Array.range 0)) (parts.toList.map fun x => (x.1, a.eval x.2)) = some out := by
        rw [← f1]
        congr 1
        simp
      simp [Instr.buildSlice, run_underlying hu, Go.sizeOf, typeInfo, zeroValue, q2, q3, newRow, f1']
    · refine run_buildSlice c.w t et n _ out i zv hu q2 q3 (by rw [q4]; omega) h0 ?_
      rw [hpl]
      exact f1
  simp [execOp, ho, hrun]

theorem madeCells_list {z : Array Value} {n : Nat} (hz : 0 < z.size ∨ n = 0) : (madeCells z (n * z.size)).toList = (List.replicate n z.toList).flatten := by
  induction n with
  | zero => simp [madeCells]
  | succ n ih =>
    have hpos : 0 < z.size := by
      rcases hz with h | h
      · exact h
      · omega
    rw [List.replicate_succ', List.flatten_append, ← ih (.inl hpos)]
    apply List.ext_getElem?
    intro k
    have e1 : (n + 1) * z.size = n * z.size + z.size := by rw [Nat.add_mul, Nat.one_mul]
    have hl : (madeCells z (n * z.size)).toList.length = n * z.size := by simp [madeCells]
    by_cases hk : k < n * z.size
    · rw [List.getElem?_append_left (by omega)]
      simp [madeCells, hk, e1, Nat.lt_add_right _ hk]
    · rw [List.getElem?_append_right (by omega), hl]
      by_cases hk2 : k < n * z.size + z.size
      · have e2 : k % z.size = k - n * z.size := by
          have : k = (k - n * z.size) + n * z.size := by omega
          rw [this, Nat.add_mul_mod_self_right, Nat.mod_eq_of_lt (by omega)]
          omega
        have e3 : k - n * z.size < z.size := by omega
        simp [madeCells, e1, hk2, e2, e3]
      · have e3 : z.size ≤ k - n * z.size := by omega
        rw [List.getElem?_eq_none (by simp [madeCells, e1]; omega), List.getElem?_eq_none (by simpa using e3)]

theorem rep_replicate {w : World} {ow : Bool} {ts : List Ty} {vs : List Value} {ds : List D} (h : RepC w ow ts vs ds []) : ∀ {n : Nat}, RepL w ow ts (List.replicate n vs).flatten (List.replicate n ds) []
  | 0 => by simpa using .nil
  | n + 1 => by
    rw [List.replicate_succ, List.replicate_succ, List.flatten_cons]
    exact .cons h (rep_replicate h)

theorem bytesOf_some {t : TypeId} {i : TypeInfo} (h : P.info? t = some i) : P.bytesOf t = i.bytes := by simp [Program.bytesOf, h]

theorem need_room {x : E} {n : Nat} (hx : c.den x = .int n) (h : NeedOk pre c (roomLen x)) : n ≤ 274877906944 := by
  have := need_le hx denI h
  omega

theorem makeSlice_ok (s : Sim B c sl a) (hg : (c.den g).b = true) {t : TypeId} {l k : Operand} (ho : o.op = .makeSlice t l k)
    (h : (opEff P sigs clean g o).val sl c.hp = some e) (hn : ∀ n ∈ e.need, NeedOk pre c n) : Does P o a c e := by
  simp only [opEff, ho, Rd.val_bind, Rd.val_opt] at h
  replace h := bind_some h; obtain ⟨⟨et, ts⟩, he, h⟩ := h
  simp only [Rd.val_bind, Rd.val_opt] at h
  replace h := bind_some h; obtain ⟨al, hal, h⟩ := h
  replace h := bind_some h; obtain ⟨⟨kl, el⟩, hl, h⟩ := h
  simp only [Rd.val_bind, Rd.val_opt] at h
  replace h := bind_some h; obtain ⟨ak, hak, h⟩ := h
  replace h := bind_some h; obtain ⟨⟨kc, ec⟩, hk, h⟩ := h
  simp only [Rd.val_bind, Rd.val_opt] at h
  replace h := bind_some h; obtain ⟨z, hz, h⟩ := h
  replace h := bind_some h; obtain ⟨⟨zs, own, us⟩, htk, h⟩ := h
  simp only [Rd.val_blk, Option.bind_some, Rd.if_bind, Rd.val_bind, Bool.and_eq_true, decide_eq_true_eq] at h
  obtain ⟨⟨⟨⟨⟨_, rfl⟩, hus⟩, hby⟩, heq⟩, h⟩ := h
  simp at h; subst h
  have hus' : us = [] := by simpa using hus
  subst hus'
  have vl := evalG_ok s hg hal
  have vk := evalG_ok s hg hak
  rw [scI_ok hl] at vl
  rw [scI_ok hk] at vk
  obtain ⟨m, f1, f2, f3⟩ := sc_int vl
  obtain ⟨m', k1, k2, k3⟩ := sc_int vk
  have := E.eq_of_beq heq
  simp only at this f2 k2
  rw [← this, f2] at k2
  simp only [D.int.injEq] at k2
  subst k2
  have h0 := need_le denI f2 (hn (.e (.le (.int 0) el)) (by simp))
  obtain ⟨n, rfl⟩ : ∃ n : Nat, m = n := ⟨m.toNat, by omega⟩
  have hroom := need_room f2 (hn (roomLen el) (by simp))
  obtain ⟨hu, ht⟩ := elemOf_spec he
  obtain ⟨ts', i, zv, q1, q2, q3, q4, q5, q6, q7, q8⟩ := zeroOf_ok (c := c) hz
  rw [ht] at q1
  simp only [Option.some.injEq] at q1
  subst q1
  rw [bytesOf_some q2] at hby
  obtain ⟨fp, r1, r2, r3⟩ := takeCells_ok s q5 htk
  have hfp : fp = [] := by
    have := (r2.own_ rfl).2
    cases fp with
    | nil => rfl
    | cons k fp =>
      obtain ⟨b, hb, _⟩ := this k (List.mem_cons_self ..)
      exact nomatch hb
  subst hfp
  have hzs : zv.cells.size = ts.length := by
    have := avs_len q5
    simpa [q6] using this
  have hb : i.bytes * n ≤ 281474976710656 := by
    have : i.bytes * n ≤ 512 * 274877906944 := Nat.mul_le_mul hby hroom
    omega
  have hrun := run_make (P := P) c.w t et i zv hu q2 q3 kl kc n n (by omega) (Int.le_refl _) (by
    have : ((i.bytes * n : Nat) : Int) ≤ 281474976710656 := by omega
    rwa [Int.natCast_mul] at this) (by omega)
  simp only [Int.toNat_natCast, q4, ← hzs] at hrun
  have hlist : (madeCells zv.cells (n * zv.cells.size)) = ((List.replicate n zv.cells.toList).flatten ++ []).toArray := by
    apply Array.ext'
    rw [List.append_nil]
    by_cases h0 : 0 < zv.cells.size
    · exact madeCells_list (.inl h0)
    · have e1 : zv.cells.size = 0 := by omega
      have e2 : zv.cells.toList = [] := List.eq_nil_of_length_eq_zero (by simpa using e1)
      rw [e1, e2]
      simp [madeCells]
  rw [hlist] at hrun
  refine newRow_ok (len := n) (cap := n) (rest := []) (t := et) (d := List.replicate n (c.dens zs)) s (fun _ h => nomatch h) ?_ (rep_replicate r1) (by simp) (Nat.le_refl _) (by omega) (by simp [hzs]) r2 (.inl rfl) ?_
  · rw [den_app, dens_cons]
    simp only [evalF, f2, D.i_int, Int.toNat_natCast]
  · simp [execOp, ho, f1, k1, hrun]

end
end Go.Sx
