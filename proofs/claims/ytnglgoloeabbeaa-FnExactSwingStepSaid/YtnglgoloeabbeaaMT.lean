/-
  The machine, part T: regions, in whatever order their operations are done.
-/
import Derived.Test.YtnglgoloeabbeaaMS
namespace Go.Sx
open Go Go.RowKit
set_option linter.unusedSimpArgs false
set_option linter.unusedVariables false

/-! ### States as functions -/

theorem putAll_look : ∀ {l h : List (Nat × Blk)}, lookBlk (putAll h l) = updHp (lookBlk h) l
  | [], h => rfl
  | (b, x) :: r, h => by
    rw [putAll, putAll_look, updHp]
    congr 1
    funext i
    simp only [lookBlk, beq_iff_eq]
    by_cases hi : b = i
    · simp [hi]
    · simp [hi, Ne.symm hi]

theorem St.put_slot {s : St} {o : Oper} {e : Eff} : (s.put o e).slot = putSl s.slot o.dst e.val := by
  funext t
  unfold St.put St.slot putSl
  cases o.dst with
  | none => simp
  | some d => simp only [lookAV, beq_iff_eq, Option.some.injEq]

theorem St.put_blk {s : St} {o : Oper} {e : Eff} : (s.put o e).blk = updHp s.blk e.upd := by
  unfold St.put St.blk
  exact putAll_look

theorem Rd.run_congr {α : Type} {sl sl' : Nat → AV} {hp hp' : Nat → Option Blk} : ∀ {x : Rd α} {a : α} {l : List Nat}, x.run sl hp = some (a, l) → (∀ t, 2 * t ∈ l → sl' t = sl t) → (∀ b, 2 * b + 1 ∈ l → hp' b = hp b) → x.run sl' hp' = some (a, l)
  | .pure a, _, _, h, _, _ => h
  | .fail, _, _, h, _, _ => h
  | .slot t k, a, l, h, h1, h2 => by
    simp only [Rd.run] at h ⊢
    split at h
    · rename_i a' l' hr
      simp only [Option.some.injEq, Prod.mk.injEq] at h
      obtain ⟨rfl, rfl⟩ := h
      rw [h1 t (List.mem_cons_self ..), Rd.run_congr hr (fun t ht => h1 t (List.mem_cons_of_mem _ ht)) fun b hb => h2 b (List.mem_cons_of_mem _ hb)]
    · simp at h
  | .blk b k, a, l, h, h1, h2 => by
    simp only [Rd.run] at h ⊢
    split at h
    · rename_i a' l' hr
      simp only [Option.some.injEq, Prod.mk.injEq] at h
      obtain ⟨rfl, rfl⟩ := h
      rw [h2 b (List.mem_cons_self ..), Rd.run_congr hr (fun t ht => h1 t (List.mem_cons_of_mem _ ht)) fun b hb => h2 b (List.mem_cons_of_mem _ hb)]
    · simp at h

theorem Rd.val_of_run {α : Type} {sl : Nat → AV} {hp : Nat → Option Blk} {x : Rd α} {a : α} {l : List Nat} (h : x.run sl hp = some (a, l)) : x.val sl hp = some a := by
  unfold Rd.val; rw [h]; rfl

abbrev Cl := AV × Option Blk
/-- What stands at a place: slots at the even ones, blocks at the odd. -/
def locV (sl : Nat → AV) (hp : Nat → Option Blk) (x : Nat) : Cl := if x % 2 = 0 then (sl (x / 2), none) else (.undef, hp (x / 2))
def slOf (f : Nat → Cl) (t : Nat) : AV := (f (2 * t)).1
def hpOf (f : Nat → Cl) (b : Nat) : Option Blk := (f (2 * b + 1)).2

theorem slOf_locV {sl : Nat → AV} {hp : Nat → Option Blk} : slOf (locV sl hp) = sl := by
  funext t; simp [slOf, locV]
theorem hpOf_locV {sl : Nat → AV} {hp : Nat → Option Blk} : hpOf (locV sl hp) = hp := by
  funext b
  have h1 : (2 * b + 1) % 2 = 1 := by omega
  have h2 : (2 * b + 1) / 2 = b := by omega
  simp [hpOf, locV, h1, h2]

def wrV (e : Eff) (x : Nat) : Cl := if x % 2 = 0 then (e.val, none) else (.undef, updHp (fun _ => none) e.upd (x / 2))

theorem updHp_in {hp hp' : Nat → Option Blk} {b : Nat} : ∀ {us : List (Nat × Blk)}, b ∈ us.map (·.1) → updHp hp us b = updHp hp' us b := by
  intro us
  induction us generalizing hp hp' with
  | nil => exact fun h => nomatch h
  | cons y r ih =>
    intro hb
    obtain ⟨i, x⟩ := y
    rw [updHp, updHp]
    by_cases hr : b ∈ r.map (·.1)
    · exact ih hr
    · rw [updHp_not fun y hy e => hr (List.mem_map.2 ⟨y, hy, e⟩), updHp_not fun y hy e => hr (List.mem_map.2 ⟨y, hy, e⟩)]
      rcases List.mem_cons.1 hb with h | h
      · simp only at h; simp [h]
      · exact absurd h hr

theorem wr_slot {d x : Nat} : x ∈ [2 * d] ↔ some d = some (x / 2) ∧ x % 2 = 0 := by
  constructor
  · intro h
    have := List.mem_singleton.1 h
    exact ⟨congrArg some (by omega), by omega⟩
  · rintro ⟨h, h'⟩
    simp only [Option.some.injEq] at h
    exact List.mem_singleton.2 (by omega)

theorem locV_put {sl : Nat → AV} {hp : Nat → Option Blk} {o : Oper} {e : Eff} (x : Nat) : locV (putSl sl o.dst e.val) (updHp hp e.upd) x = if x ∈ Oper.wr o e.upd then wrV e x else locV sl hp x := by
  have hmem : x ∈ Oper.wr o e.upd ↔ (o.dst = some (x / 2) ∧ x % 2 = 0) ∨ (x / 2 ∈ e.upd.map (·.1) ∧ x % 2 = 1) := by
    unfold Oper.wr
    rw [List.mem_append]
    refine or_congr ?_ ?_
    · cases o.dst with
      | none => simp
      | some d => exact wr_slot
    · simp only [List.mem_map]
      constructor
      · rintro ⟨y, hy, e⟩
        exact ⟨⟨y, hy, by omega⟩, by omega⟩
      · rintro ⟨⟨y, hy, e⟩, h⟩
        exact ⟨y, hy, by omega⟩
  by_cases hx : x % 2 = 0
  · have : x ∈ Oper.wr o e.upd ↔ o.dst = some (x / 2) := by
      rw [hmem]
      constructor
      · rintro (h | h)
        · exact h.1
        · omega
      · exact fun h => .inl ⟨h, hx⟩
    simp only [locV, wrV, hx, if_true, putSl, this]
    split <;> rfl
  · have h1 : x % 2 = 1 := by omega
    have : x ∈ Oper.wr o e.upd ↔ x / 2 ∈ e.upd.map (·.1) := by
      rw [hmem]
      constructor
      · rintro (h | h)
        · omega
        · exact h.1
      · exact fun h => .inr ⟨h, h1⟩
    simp only [locV, wrV, hx, if_false, this]
    split
    · rename_i h
      rw [updHp_in h]
    · rename_i h
      rw [updHp_not fun y hy e => h (List.mem_map.2 ⟨y, hy, e⟩)]

/-! ### The last that wrote -/

section
variable {V : Type} (wr : Nat → Nat → Bool) (w : Nat → Nat → V) (v0 : Nat → V)
def Fold (S : Nat → Bool) : Nat → Nat → V
  | 0 => v0
  | k + 1 => fun x => if S k && wr k x then w k x else Fold S k x

theorem fold_same {S T : Nat → Bool} {x : Nat} : ∀ {n : Nat}, (∀ j, j < n → S j = T j ∨ wr j x = false) → Fold wr w v0 S n x = Fold wr w v0 T n x
  | 0, _ => rfl
  | n + 1, h => by
    have ih := fold_same (n := n) fun j hj => h j (by omega)
    simp only [Fold]
    rcases h n (by omega) with h | h
    · rw [h, ih]
    · simp [h, ih]

theorem fold_tail {S : Nat → Bool} {i x : Nat} : ∀ {n : Nat}, i ≤ n → (∀ j, i ≤ j → j < n → S j = true → wr j x = false) → Fold wr w v0 S n x = Fold wr w v0 S i x
  | 0, hi, _ => by have : i = 0 := by omega
                   rw [this]
  | n + 1, hi, h => by
    by_cases hin : i = n + 1
    · rw [hin]
    · have ih := fold_tail (n := n) (by omega) fun j h1 h2 => h j h1 (by omega)
      simp only [Fold]
      cases hs : S n with
      | false => simp [ih]
      | true => simp [h n (by omega) (by omega) hs, ih]

theorem fold_add {S : Nat → Bool} {i n : Nat} (hin : i < n) (x : Nat) (h : wr i x = true → ∀ j, i < j → j < n → S j = true → wr j x = false) :
    Fold wr w v0 (fun j => S j || j == i) n x = if wr i x then w i x else Fold wr w v0 S n x := by
  cases hw : wr i x with
  | false =>
    simp only [Bool.false_eq_true, if_false]
    refine fold_same wr w v0 fun j _ => ?_
    by_cases hj : j = i
    · subst hj; exact .inr hw
    · left; simp [hj]
  | true =>
    rw [fold_tail wr w v0 (i := i + 1) (by omega) fun j h1 h2 h3 => ?_]
    · simp [Fold, hw]
    · refine h hw j (by omega) h2 ?_
      have : (j == i) = false := by simp; omega
      simpa [this] using h3
end

/-! ### The run of a region, written down -/

abbrev Rec := Oper × Eff × List Ask × List Nat
def foldPut (s : St) (l : List Rec) : St := l.foldl (fun s x => s.put x.1 x.2.1) s

structure Ran (P : Program) (sigs : Nat → Option Sig) (clean : List Nat) (nt : Nat) (ops : Array Oper) (s : St) (l : List Rec) : Prop where
  dst : ∀ x ∈ l, ∀ d, x.1.dst = some d → d < nt
  run : ∀ (k : Nat) (x : Rec), l[k]? = some x → (stepRd P sigs clean ops x.1).run (foldPut s (l.take k)).slot (foldPut s (l.take k)).blk = some ((x.2.1, x.2.2.1), x.2.2.2)

theorem runOps_ran {P : Program} {sigs : Nat → Option Sig} {clean : List Nat} {nt : Nat} {ops : Array Oper} : ∀ {os : List Oper} {s s' : St} {as : List Ask} {ls : List Log}, runOps P sigs clean nt ops os s = some (s', as, ls) →
    ∃ l : List Rec, l.map (·.1) = os ∧ as = (l.map fun x => x.2.2.1).flatten ∧ ls = l.map (fun x => ⟨x.2.2.2, Oper.wr x.1 x.2.1.upd⟩) ∧ s' = foldPut s l ∧ Ran P sigs clean nt ops s l
  | [], s, s', as, ls, h => by
    simp only [runOps, Option.some.injEq, Prod.mk.injEq] at h
    obtain ⟨rfl, rfl, rfl⟩ := h
    exact ⟨[], rfl, rfl, rfl, rfl, (fun _ h => nomatch h), fun k x h => by simp at h⟩
  | o :: os, s, s', as, ls, h => by
    simp only [runOps] at h
    split at h
    · simp at h
    rename_i e a rd hst
    split at h
    · simp at h
    rename_i hd
    split at h
    · simp at h
    rename_i s1 as1 ls1 hr
    simp only [Option.some.injEq, Prod.mk.injEq] at h
    obtain ⟨rfl, rfl, rfl⟩ := h
    obtain ⟨l, h1, h2, h3, h4, h5⟩ := runOps_ran hr
    have hd' : (o.dst.all fun d => decide (d < nt)) = true := by simpa using hd
    refine ⟨(o, e, a, rd) :: l, by simp [h1], by simp [h2], by simp [h3], by rw [h4]; rfl, fun x hx d hxd => ?_, fun k x hk => ?_⟩
    · rcases List.mem_cons.1 hx with rfl | hx
      · rw [hxd] at hd'; simpa using hd'
      · exact h5.dst x hx d hxd
    · cases k with
      | zero =>
        simp only [List.getElem?_cons_zero, Option.some.injEq] at hk
        subst hk
        exact hst
      | succ k =>
        simp only [List.getElem?_cons_succ] at hk
        exact h5.run k x hk

/-! ### Any order -/

def NeedAt (pre : Nat → List D → Prop) (Γ : Nat → List D → List D) (ρ : List D) : Need → Prop
  | .e x => (Sx.den Γ ρ x).b = true
  | .ask f args => pre f (denL Γ ρ args)

/-- A frame and a world at which this symbolic state holds. -/
def At (B : Base) (Γ : Nat → List D → List D) (ρ : List D) (X : Nat → Prop) (sl : Nat → AV) (hp : Nat → Option Blk) (a : Act) (w : World) : Prop :=
  ∃ c : Ctx, c.w = w ∧ c.Γ = Γ ∧ c.ρ = ρ ∧ c.L.X = X ∧ c.hp = hp ∧ Sim B c sl a

section
variable {P : Program} {B : Base} {sigs : Nat → Option Sig} {clean : List Nat} {pre : Nat → List D → Prop} {G : List Nat} {Γ : Nat → List D → List D} {ρ : List D} {X : Nat → Prop} {ops : Array Oper} {Q : Exit → Act → World → Prop}

theorem step_at (S : Setting P G B Γ sigs pre) (hX : ∀ k ∈ G, X k) {o : Oper} {i : Nat} (hi : ops[i]? = some o) {sl : Nat → AV} {hp : Nat → Option Blk} {q : Eff × List Ask} (h : (stepRd P sigs clean ops o).val sl hp = some q)
    (hn : ∀ x ∈ q.2, (Sx.den Γ ρ x.g).b = true → NeedAt pre Γ ρ x.n) (hd : ∀ d, o.dst = some d → d < B.nt) {a : Act} {w : World} (hat : At B Γ ρ X sl hp a w) {K : Act → World → Prop}
    (hK : ∀ a' w', At B Γ ρ X (putSl sl o.dst q.1.val) (updHp hp q.1.upd) a' w' → K a' w') : wpOp P ops Q i K a w := by
  obtain ⟨c, rfl, rfl, rfl, rfl, rfl, s⟩ := hat
  refine stepRd_ok s S hX hi h (fun x hx hg => ?_) hd fun a' c' s' e1 e2 e3 e4 => hK a' c'.w ⟨c', rfl, e2, e3, e4, e1, s'⟩
  have := hn x hx hg
  cases hxn : x.n with
  | e y => rw [hxn] at this; exact this
  | ask f args => rw [hxn] at this; exact this

theorem foldPut_take {s : St} {l : List Rec} {k : Nat} {x : Rec} (h : l[k]? = some x) : foldPut s (l.take (k + 1)) = (foldPut s (l.take k)).put x.1 x.2.1 := by
  have hk : k < l.length := by
    rcases Nat.lt_or_ge k l.length with h' | h'
    · exact h'
    · simp [List.getElem?_eq_none h'] at h
  have hx : l[k] = x := by simpa [List.getElem?_eq_getElem hk] using h
  unfold foldPut
  rw [List.take_succ_eq_append_getElem hk, List.foldl_append, hx]
  rfl

theorem ops_lex (S : Setting P G B Γ sigs pre) (hX : ∀ k ∈ G, X k) {s : St} {l : List Rec} (hl : l.map (·.1) = ops.toList) (hr : Ran P sigs clean B.nt ops s l)
    (hn : ∀ x ∈ l, ∀ y ∈ x.2.2.1, (Sx.den Γ ρ y.g).b = true → NeedAt pre Γ ρ y.n) (hQ : ∀ a' w', At B Γ ρ X (foldPut s l).slot (foldPut s l).blk a' w' → Q .normal a' w') :
    ∀ (m k : Nat) (a : Act) (w : World), k + m = l.length → At B Γ ρ X (foldPut s (l.take k)).slot (foldPut s (l.take k)).blk a w → wpOps P ops Q (List.range' k m) a w
  | 0, k, a, w, hk, hat => by
    have : l.take k = l := List.take_of_length_le (by omega)
    rw [this] at hat
    exact hQ a w hat
  | m + 1, k, a, w, hk, hat => by
    have hlt : k < l.length := by omega
    have hget : l[k]? = some l[k] := List.getElem?_eq_getElem hlt
    have hop : ops[k]? = some l[k].1 := by
      rw [← Array.getElem?_toList, ← hl, List.getElem?_map, hget]; rfl
    rw [List.range'_succ, wpOps_cons]
    refine step_at S hX hop (Rd.val_of_run (hr.run k _ hget)) (hn _ (List.getElem_mem hlt)) (hr.dst _ (List.getElem_mem hlt)) hat fun a' w' h' => ops_lex S hX hl hr hn hQ m (k + 1) a' w' (by omega) ?_
    rw [foldPut_take hget, St.put_slot, St.put_blk]
    exact h'

/-- What each edge that binds asks for. -/
theorem edgesBack_spec : ∀ {os : List Oper} {i : Nat}, edgesBack i os = true → ∀ (k : Nat) (o : Oper), os[k]? = some o → ∀ e ∈ o.after, Region.binds .any e = true → e.on < i + k
  | [], _, _, k, o, h => by simp at h
  | o :: os, i, h, k, o', hk => by
    simp only [edgesBack, Bool.and_eq_true] at h
    cases k with
    | zero =>
      simp only [List.getElem?_cons_zero, Option.some.injEq] at hk
      subst hk
      intro e he hb
      have := (Array.all_eq_true_iff_forall_mem.1 h.1) e he
      simpa [hb] using this
    | succ k =>
      simp only [List.getElem?_cons_succ] at hk
      have := edgesBack_spec h.2 k o' hk
      intro e he hb
      have := this e he hb
      omega

theorem foldBits {p : Edge → Bool} {g : Edge → Nat} {i : Nat} : ∀ {l : List Edge} {m : Nat}, (l.foldl (fun m e => if p e then m ||| g e else m) m).testBit i = true ↔ m.testBit i = true ∨ ∃ e ∈ l, p e = true ∧ (g e).testBit i = true
  | [], m => by simp
  | e :: l, m => by
    rw [List.foldl_cons, foldBits]
    by_cases hp : p e = true
    · rw [if_pos hp, Nat.testBit_or]
      simp only [Bool.or_eq_true, List.mem_cons, exists_eq_or_imp, hp, true_and]
      rw [or_assoc]
    · rw [if_neg hp]
      simp only [List.mem_cons, exists_eq_or_imp, hp, false_and, false_or]
      simp

theorem preds_spec : ∀ {os : List Oper} {acc : List Nat}, (∀ k, k < acc.length → (preds os acc)[k]? = acc[k]?) ∧ ∀ (k : Nat) (o : Oper), os[k]? = some o → ∀ i,
    (((preds os acc).getD (acc.length + k) 0).testBit i = true ↔ ∃ e ∈ o.after.toList, (Region.binds .any e && decide (e.on < acc.length + k)) = true ∧ (2 ^ e.on ||| (preds os acc).getD e.on 0).testBit i = true)
  | [], acc => ⟨(fun k _ => rfl), fun k o h => by simp at h⟩
  | o :: os, acc => by
    obtain ⟨ih1, ih2⟩ := preds_spec (os := os) (acc := acc ++ [o.after.toList.foldl (fun m e => if Region.binds .any e && decide (e.on < acc.length) then m ||| (2 ^ e.on ||| acc.getD e.on 0) else m) 0])
    simp only [preds]
    simp only [List.length_append, List.length_singleton] at ih1 ih2
    refine ⟨fun k hk => ?_, fun k o' hk i => ?_⟩
    · rw [ih1 k (by omega), List.getElem?_append_left hk]
    · cases k with
      | zero =>
        simp only [List.getElem?_cons_zero, Option.some.injEq] at hk
        subst hk
        rw [Nat.add_zero, List.getD_eq_getElem?_getD, ih1 acc.length (by omega), List.getElem?_append_right (Nat.le_refl _), Nat.sub_self]
        simp only [List.getElem?_cons_zero, Option.getD_some]
        rw [foldBits]
        simp only [Nat.zero_testBit, Bool.false_eq_true, false_or]
        refine exists_congr fun e => and_congr_right fun _ => and_congr_right fun hp => ?_
        simp only [Bool.and_eq_true, decide_eq_true_eq] at hp
        rw [List.getD_eq_getElem?_getD, List.getD_eq_getElem?_getD, ih1 e.on (by omega), List.getElem?_append_left hp.2]
      | succ k =>
        simp only [List.getElem?_cons_succ] at hk
        have := ih2 k o' hk i
        rw [show acc.length + (k + 1) = acc.length + 1 + k from by omega]
        exact this

theorem apartL_spec {a b : List Nat} (h : apartL a b = true) {x : Nat} (hx : x ∈ a) : x ∉ b := by
  simp only [apartL, List.all_eq_true, Bool.not_eq_true', List.contains_eq_mem, decide_eq_false_iff_not] at h
  exact h x hx

theorem filter_less {α : Type} {p q : α → Bool} : ∀ {l : List α}, (∀ x ∈ l, q x = true → p x = true) → (∃ x ∈ l, p x = true ∧ q x = false) → (l.filter q).length < (l.filter p).length
  | [], _, h => by obtain ⟨x, hx, _⟩ := h; exact nomatch hx
  | a :: l, h, he => by
    have hle : (l.filter q).length ≤ (l.filter p).length := by
      clear he
      have h' : ∀ x ∈ l, q x = true → p x = true := fun x hx => h x (List.mem_cons_of_mem _ hx)
      clear h
      induction l with
      | nil => exact Nat.le_refl _
      | cons b l ih =>
        have := ih fun x hx => h' x (List.mem_cons_of_mem _ hx)
        have hb := h' b (List.mem_cons_self ..)
        simp only [List.filter_cons]
        cases hq : q b with
        | true => simp [hb hq]; exact this
        | false => cases p b <;> simp <;> omega
    by_cases hin : ∃ x ∈ l, p x = true ∧ q x = false
    · have := filter_less (fun x hx => h x (List.mem_cons_of_mem _ hx)) hin
      have ha := h a (List.mem_cons_self ..)
      simp only [List.filter_cons]
      cases hq : q a with
      | true => simp [ha hq]; exact this
      | false => cases p a <;> simp <;> omega
    · obtain ⟨x, hx, h1, h2⟩ := he
      rcases List.mem_cons.1 hx with rfl | hx
      · simp only [List.filter_cons, h1, h2, if_true]
        simp; omega
      · exact absurd ⟨x, hx, h1, h2⟩ hin

def wrOf (l : List Rec) (k x : Nat) : Bool := match l[k]? with
  | some r => decide (x ∈ Oper.wr r.1 r.2.1.upd)
  | none => false
def valOf (l : List Rec) (k x : Nat) : Cl := match l[k]? with
  | some r => wrV r.2.1 x
  | none => (.undef, none)

theorem fold_lex {s : St} {l : List Rec} : ∀ {k : Nat}, k ≤ l.length → Fold (wrOf l) (valOf l) (locV s.slot s.blk) (fun _ => true) k = locV (foldPut s (l.take k)).slot (foldPut s (l.take k)).blk
  | 0, _ => rfl
  | k + 1, hk => by
    have ih := fold_lex (s := s) (l := l) (k := k) (by omega)
    have hget : l[k]? = some l[k] := List.getElem?_eq_getElem (by omega)
    funext x
    rw [foldPut_take hget, St.put_slot, St.put_blk, locV_put, ← ih]
    simp only [Fold, wrOf, valOf, hget, Bool.true_and, decide_eq_true_eq]

def Sh (x : Nat) (v : Cl) : Prop := (x % 2 = 0 → v.2 = none) ∧ (x % 2 ≠ 0 → v.1 = .undef)
theorem sh_loc {sl : Nat → AV} {hp : Nat → Option Blk} {x : Nat} : Sh x (locV sl hp x) := ⟨fun h => by simp [locV, h], fun h => by simp [locV, h]⟩
theorem sh_wr {e : Eff} {x : Nat} : Sh x (wrV e x) := ⟨fun h => by simp [wrV, h], fun h => by simp [wrV, h]⟩

theorem fold_shape {s : St} {l : List Rec} {S : Nat → Bool} {n : Nat} (x : Nat) : locV (slOf (Fold (wrOf l) (valOf l) (locV s.slot s.blk) S n)) (hpOf (Fold (wrOf l) (valOf l) (locV s.slot s.blk) S n)) x = Fold (wrOf l) (valOf l) (locV s.slot s.blk) S n x := by
  have key : ∀ n, Sh x (Fold (wrOf l) (valOf l) (locV s.slot s.blk) S n x) := by
    intro n
    induction n with
    | zero => exact sh_loc
    | succ n ih =>
      simp only [Fold]
      by_cases h : (S n && wrOf l n x) = true
      · rw [if_pos h]
        unfold valOf
        cases l[n]? with
        | none => exact ⟨fun _ => rfl, fun _ => rfl⟩
        | some r => exact sh_wr
      · rw [if_neg h]; exact ih
  obtain ⟨k1, k2⟩ := key n
  by_cases hx : x % 2 = 0
  · have e : 2 * (x / 2) = x := by omega
    simp only [locV, hx, if_true, slOf, e]
    exact Prod.ext rfl (k1 hx).symm
  · have e : 2 * (x / 2) + 1 = x := by omega
    simp only [locV, hx, if_false, hpOf, e]
    exact Prod.ext (k2 hx).symm rfl

theorem ops_any (S : Setting P G B Γ sigs pre) (hX : ∀ k ∈ G, X k) {s : St} {l : List Rec} (hl : l.map (·.1) = ops.toList) (hr : Ran P sigs clean B.nt ops s l)
    (hn : ∀ x ∈ l, ∀ y ∈ x.2.2.1, (Sx.den Γ ρ y.g).b = true → NeedAt pre Γ ρ y.n) (hcalm : calm (l.map fun x => ⟨x.2.2.2, Oper.wr x.1 x.2.1.upd⟩) (preds ops.toList []) = true) (hback : edgesBack 0 ops.toList = true)
    (hQ : ∀ a' w', At B Γ ρ X (foldPut s l).slot (foldPut s l).blk a' w' → Q .normal a' w') :
    ∀ (fuel : Nat) (listed : Array Bool) (a : Act) (w : World), listed.size = l.length → (∀ j, listed.getD j false = true → ∀ i, ((preds ops.toList []).getD j 0).testBit i = true → listed.getD i false = true) →
      ((List.range l.length).filter fun j => !listed.getD j false).length ≤ fuel →
      At B Γ ρ X (slOf (Fold (wrOf l) (valOf l) (locV s.slot s.blk) (fun j => listed.getD j false) l.length)) (hpOf (Fold (wrOf l) (valOf l) (locV s.slot s.blk) (fun j => listed.getD j false) l.length)) a w →
      wpAny P .any ops Q fuel listed a w := by
  have hsize : ops.size = l.length := by rw [← Array.length_toList, ← hl, List.length_map]
  have opAt : ∀ (k : Nat) (hk : k < l.length), ops[k]? = some l[k].1 := fun k hk => by
    rw [← Array.getElem?_toList, ← hl, List.getElem?_map, List.getElem?_eq_getElem hk]; rfl
  have back : ∀ (k : Nat) (o : Oper), ops[k]? = some o → ∀ e ∈ o.after, Region.binds .any e = true → e.on < k := fun k o ho e he hb => by
    have := edgesBack_spec hback k o (by rw [Array.getElem?_toList]; exact ho) e he hb
    omega
  have hpreds : ∀ (k : Nat) (o : Oper), ops[k]? = some o → ∀ i, ((preds ops.toList []).getD k 0).testBit i = true ↔ ∃ e ∈ o.after, Region.binds .any e = true ∧ (i = e.on ∨ ((preds ops.toList []).getD e.on 0).testBit i = true) := fun k o ho i => by
    have := (preds_spec (os := ops.toList) (acc := [])).2 k o (by rw [Array.getElem?_toList]; exact ho) i
    simp only [List.length_nil, Nat.zero_add] at this
    rw [this]
    have bit : ∀ e : Edge, (2 ^ e.on ||| (preds ops.toList []).getD e.on 0).testBit i = true ↔ i = e.on ∨ ((preds ops.toList []).getD e.on 0).testBit i = true := fun e => by
      rw [Nat.testBit_or, Bool.or_eq_true, Nat.testBit_two_pow, decide_eq_true_eq]
      exact or_congr ⟨Eq.symm, Eq.symm⟩ Iff.rfl
    constructor
    · rintro ⟨e, he, hp, hi⟩
      simp only [Bool.and_eq_true, decide_eq_true_eq] at hp
      exact ⟨e, by simpa using he, hp.1, (bit e).1 hi⟩
    · rintro ⟨e, he, hb, hi⟩
      refine ⟨e, by simpa using he, ?_, (bit e).2 hi⟩
      simp only [Bool.and_eq_true, decide_eq_true_eq]
      exact ⟨hb, back k o ho e he hb⟩
  have quiet : ∀ i j (hij : i < j) (hj : j < l.length), ((preds ops.toList []).getD j 0).testBit i = true ∨
      ((∀ x ∈ Oper.wr l[i].1 l[i].2.1.upd, x ∉ l[j].2.2.2 ∧ x ∉ Oper.wr l[j].1 l[j].2.1.upd) ∧ ∀ x ∈ Oper.wr l[j].1 l[j].2.1.upd, x ∉ l[i].2.2.2) := fun i j hij hj => by
    simp only [calm, List.all_eq_true, List.mem_range, List.length_map] at hcalm
    have h := hcalm j hj i hij
    simp only [Bool.or_eq_true, Bool.and_eq_true, List.getD_eq_getElem?_getD, List.getElem?_map, List.getElem?_eq_getElem hj, List.getElem?_eq_getElem (Nat.lt_trans hij hj), Option.map_some, Option.getD_some] at h
    rcases h with h | ⟨h1, h2⟩
    · left; rw [List.getD_eq_getElem?_getD]; exact h
    · refine .inr ⟨fun x hx => ?_, fun x hx => apartL_spec h2 hx⟩
      have := apartL_spec h1 hx
      simp only [List.mem_append, not_or] at this
      exact this
  have final : ∀ (listed : Array Bool) (a : Act) (w : World), listed.size = l.length → Region.ready .any ops listed = [] →
      At B Γ ρ X (slOf (Fold (wrOf l) (valOf l) (locV s.slot s.blk) (fun j => listed.getD j false) l.length)) (hpOf (Fold (wrOf l) (valOf l) (locV s.slot s.blk) (fun j => listed.getD j false) l.length)) a w → Q .normal a w := by
    intro listed a w hsz hre hat
    have all : ∀ k, k < l.length → listed.getD k false = true := by
      intro k
      induction k using Nat.strongRecOn with
      | _ k ih =>
        intro hk
        cases hlk : listed.getD k false with
        | true => rfl
        | false =>
          have : k ∈ Region.ready .any ops listed := by
            rw [mem_ready]
            refine ⟨?_, l[k].1, opAt k hk, fun e he hb => ?_⟩
            · rw [Array.getD_eq_getD_getElem?] at hlk ⊢
              rw [Array.getElem?_eq_getElem (by omega)] at hlk ⊢
              exact hlk
            · have := back k _ (opAt k hk) e he hb
              exact ih e.on this (by omega)
          rw [hre] at this
          exact nomatch this
    have : Fold (wrOf l) (valOf l) (locV s.slot s.blk) (fun j => listed.getD j false) l.length = locV (foldPut s l).slot (foldPut s l).blk := by
      have e1 := fold_lex (s := s) (l := l) (k := l.length) (Nat.le_refl _)
      rw [List.take_length] at e1
      rw [← e1]
      funext x
      exact fold_same _ _ _ fun j hj => .inl (all j hj)
    rw [this, slOf_locV, hpOf_locV] at hat
    exact hQ a w hat
  intro fuel
  induction fuel with
  | zero =>
    intro listed a w hsz hcl hcnt hat
    have hre : Region.ready .any ops listed = [] := by
      cases hre : Region.ready .any ops listed with
      | nil => rfl
      | cons i r =>
        have hi : i ∈ Region.ready .any ops listed := by rw [hre]; exact List.mem_cons_self ..
        rw [mem_ready] at hi
        obtain ⟨h1, o, ho, _⟩ := hi
        have hlt : i < l.length := by
          rw [← hsize]
          rcases Nat.lt_or_ge i ops.size with h | h
          · exact h
          · simp [Array.getElem?_eq_none h] at ho
        have hf : listed.getD i false = false := by
          rw [Array.getD_eq_getD_getElem?] at h1 ⊢
          rw [Array.getElem?_eq_getElem (by omega)] at h1 ⊢
          exact h1
        have hm : i ∈ (List.range l.length).filter fun j => !listed.getD j false := by
          rw [List.mem_filter, List.mem_range]
          exact ⟨hlt, by rw [hf]; rfl⟩
        have := List.length_pos_of_mem hm
        omega
    exact ⟨hre, final listed a w hsz hre hat⟩
  | succ fuel ih =>
    intro listed a w hsz hcl hcnt hat
    refine ⟨fun hre => final listed a w hsz hre hat, fun i hi => ?_⟩
    rw [mem_ready] at hi
    obtain ⟨h1, o, ho, hbind⟩ := hi
    have hlt : i < l.length := by
      rw [← hsize]
      rcases Nat.lt_or_ge i ops.size with h | h
      · exact h
      · simp [Array.getElem?_eq_none h] at ho
    have hoi : o = l[i].1 := by
      rw [opAt i hlt] at ho
      simpa using ho.symm
    subst hoi
    have hf : listed.getD i false = false := by
      rw [Array.getD_eq_getD_getElem?] at h1 ⊢
      rw [Array.getElem?_eq_getElem (by omega)] at h1 ⊢
      exact h1
    have hget : l[i]? = some l[i] := List.getElem?_eq_getElem hlt
    -- who comes ahead is done
    have hahead : ∀ j, ((preds ops.toList []).getD i 0).testBit j = true → listed.getD j false = true := fun j hj => by
      obtain ⟨e, he, hb, h⟩ := (hpreds i _ ho j).1 hj
      have hd := hbind e he hb
      rcases h with rfl | h
      · exact hd
      · exact hcl _ hd j h
    have later : ∀ j, i < j → j < l.length → listed.getD j false = true → (∀ x ∈ Oper.wr l[i].1 l[i].2.1.upd, wrOf l j x = false) ∧ ∀ x ∈ l[i].2.2.2, wrOf l j x = false := fun j hij hj hdone => by
      rcases quiet i j hij hj with h | ⟨h, h'⟩
      · have := hcl j hdone i h
        rw [hf] at this; exact nomatch this
      · have hgj : l[j]? = some l[j] := List.getElem?_eq_getElem hj
        refine ⟨fun x hx => ?_, fun x hx => ?_⟩
        · simp only [wrOf, hgj, decide_eq_false_iff_not]
          exact (h x hx).2
        · simp only [wrOf, hgj, decide_eq_false_iff_not]
          exact fun hm => h' x hm hx
    have earlier : ∀ j, j < i → listed.getD j false = false → ∀ x ∈ l[i].2.2.2, wrOf l j x = false := fun j hji hnd x hx => by
      rcases quiet j i hji hlt with h | ⟨h, _⟩
      · have := hahead j h
        rw [hnd] at this; exact nomatch this
      · have hgj : l[j]? = some (l[j]'(Nat.lt_trans hji hlt)) := List.getElem?_eq_getElem (Nat.lt_trans hji hlt)
        simp only [wrOf, hgj, decide_eq_false_iff_not]
        exact fun hm => (h x hm).1 hx
    -- it sees what it saw
    have sees : ∀ x ∈ l[i].2.2.2, Fold (wrOf l) (valOf l) (locV s.slot s.blk) (fun j => listed.getD j false) l.length x = locV (foldPut s (l.take i)).slot (foldPut s (l.take i)).blk x := fun x hx => by
      rw [← fold_lex (Nat.le_of_lt hlt), fold_tail (wrOf l) (valOf l) _ (i := i) (Nat.le_of_lt hlt) fun j h1 h2 h3 => ?_]
      · refine fold_same _ _ _ fun j hj => ?_
        cases hd : listed.getD j false with
        | true => exact .inl rfl
        | false => exact .inr (earlier j hj hd x hx)
      · rcases Nat.lt_or_eq_of_le h1 with h | h
        · exact (later j h h2 h3).2 x hx
        · subst h; rw [hf] at h3; exact nomatch h3
    have hrun := Rd.run_congr (sl' := slOf (Fold (wrOf l) (valOf l) (locV s.slot s.blk) (fun j => listed.getD j false) l.length)) (hp' := hpOf (Fold (wrOf l) (valOf l) (locV s.slot s.blk) (fun j => listed.getD j false) l.length)) (hr.run i _ hget)
      (fun t ht => by unfold slOf; rw [sees _ ht]; simp [locV]) (fun b hb => by
        unfold hpOf
        rw [sees _ hb]
        have q1 : (2 * b + 1) % 2 = 1 := by omega
        have q2 : (2 * b + 1) / 2 = b := by omega
        simp [locV, q1, q2])
    refine step_at S hX ho (Rd.val_of_run hrun) (hn _ (List.getElem_mem hlt)) (hr.dst _ (List.getElem_mem hlt)) hat fun a' w' hat' => ih (listed.setIfInBounds i true) a' w' (by simpa using hsz) (fun j hj k hk => ?_) ?_ ?_
    · by_cases hji : j = i
      · subst hji
        exact getD_set_true (hahead k hk)
      · rw [getD_set_ne false (Ne.symm hji)] at hj
        exact getD_set_true (hcl j hj k hk)
    · have : ((List.range l.length).filter fun j => !(listed.setIfInBounds i true).getD j false).length < ((List.range l.length).filter fun j => !listed.getD j false).length := by
        refine filter_less (fun j _ hj => ?_) ⟨i, List.mem_range.2 hlt, by rw [hf]; rfl, ?_⟩
        · cases hd : listed.getD j false with
          | false => rfl
          | true => rw [getD_set_true hd] at hj; exact hj
        · have : (listed.setIfInBounds i true).getD i false = true := by
            rw [Array.getD_eq_getD_getElem?, Array.getElem?_setIfInBounds_self_of_lt (by omega)]; rfl
          rw [this]; rfl
      omega
    · have hfold : Fold (wrOf l) (valOf l) (locV s.slot s.blk) (fun j => (listed.setIfInBounds i true).getD j false) l.length =
          locV (putSl (slOf (Fold (wrOf l) (valOf l) (locV s.slot s.blk) (fun j => listed.getD j false) l.length)) l[i].1.dst l[i].2.1.val) (updHp (hpOf (Fold (wrOf l) (valOf l) (locV s.slot s.blk) (fun j => listed.getD j false) l.length)) l[i].2.1.upd) := by
        funext x
        have e1 : Fold (wrOf l) (valOf l) (locV s.slot s.blk) (fun j => (listed.setIfInBounds i true).getD j false) l.length x = Fold (wrOf l) (valOf l) (locV s.slot s.blk) (fun j => listed.getD j false || j == i) l.length x := by
          refine fold_same _ _ _ fun j hj => .inl ?_
          by_cases hji : j = i
          · subst hji
            rw [Array.getD_eq_getD_getElem?, Array.getElem?_setIfInBounds_self_of_lt (by omega)]; simp
          · rw [getD_set_ne false (Ne.symm hji)]; simp [hji]
        rw [e1, fold_add (wrOf l) (valOf l) _ hlt x fun hw j h1 h2 h3 => (later j h1 h2 h3).1 x (by simpa [wrOf, hget] using hw), locV_put]
        simp only [wrOf, valOf, hget, decide_eq_true_eq]
        split
        · rfl
        · exact (fold_shape x).symm
      rw [hfold, slOf_locV, hpOf_locV]
      exact hat'
end
end Go.Sx
