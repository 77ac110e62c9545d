/-
  The machine, last part: from a law's arguments, as the statement reads them, to the machine's data, and from what the machine says of the call to the law's form.
-/
import Derived.Test.YtnglgoloeabbeaaMZ
import Derived.ProofKit
import Derived.WideKeyArgs
import Derived.Carry
import Derived.OpenShut
namespace Go.Sx
open Go Go.RowKit Go.ChangeShapes Go.WideShapes
set_option linter.unusedSimpArgs false
set_option linter.unusedVariables false

/-- The cells of a list of fields. -/
def flatF (P : Program) (r : TypeId → Option (List Ty)) : List Field → Nat → Option (List Ty)
  | [], _ => some []
  | f :: fs, o =>
    if f.offset = o then
      match r f.type with
      | some ts => if P.cellsOf f.type = ts.length then (match flatF P r fs (o + ts.length) with | some us => some (ts ++ us) | none => none) else none
      | none => none
    else none
/-- The cells of a type. -/
def flat (P : Program) : Nat → TypeId → Option (List Ty)
  | 0, _ => none
  | n + 1, t =>
    match P.underlying t with
    | some (.int k) => some [.int k]
    | some .bool => some [.bool]
    | some .string => some [.str]
    | some (.slice e) => (match flat P n e with | some ts => if P.cellsOf e = ts.length ∧ 0 < ts.length then some [.sl ts] else none | none => none)
    | some (.struct fs) => (match flatF P (flat P n) fs.toList 0 with | some ts => if P.cellsOf t = ts.length then some ts else none | none => none)
    | _ => none

theorem RepC.append {w : World} {ow : Bool} {ts us : List Ty} {vs xs : List Value} {l m : List D} {f g : List Nat} (h : RepC w ow ts vs l f) (h' : RepC w ow us xs m g) : RepC w ow (ts ++ us) (vs ++ xs) (l ++ m) (f ++ g) := by
  match h with
  | .nil => simpa using h'
  | .cons h1 h2 => have := RepC.cons h1 (h2.append h'); simpa [List.append_assoc] using this

section
variable {H : Type} {enc : TypeId × Value → H} {P : Program} {w : World} {spare : Nat → Bool} {held : Bool}

/-- What it is to read a type's cells. -/
def Flat (enc : TypeId × Value → H) (P : Program) (w : World) (spare : Nat → Bool) (held : Bool) (t : TypeId) (ts : List Ty) : Prop :=
  ∀ fuel cs x, DataW.trod enc P w 0 spare held fuel t cs = some x → ∃ ds f, RepC w false ts cs ds f

theorem flatF_ok {r : TypeId → Option (List Ty)} (hr : ∀ t ts, r t = some ts → Flat enc P w spare held t ts) {cs : List Value} {n : Nat} : ∀ (fs : List Field) (o : Nat) (ts : List Ty), flatF P r fs o = some ts →
    (∀ f ∈ fs, ∃ y, DataW.trod enc P w 0 spare held n f.type ((cs.drop f.offset).take (P.cellsOf f.type)) = some y) → ∃ ds f, RepC w false ts ((cs.drop o).take ts.length) ds f
  | [], o, ts, h, _ => by
    simp only [flatF, Option.some.injEq] at h
    subst h
    exact ⟨[], [], by simpa using RepC.nil⟩
  | f :: fs, o, ts, h, hy => by
    simp only [flatF] at h
    split at h
    · rename_i ho
      subst ho
      split at h
      · rename_i ts1 h1
        split at h
        · rename_i hc
          split at h
          · rename_i us h2
            simp only [Option.some.injEq] at h
            subst h
            obtain ⟨y, hy1⟩ := hy f (by simp)
            obtain ⟨d1, f1, e1⟩ := hr _ _ h1 _ _ _ hy1
            obtain ⟨d2, f2, e2⟩ := flatF_ok hr fs _ us h2 (fun g hg => hy g (by simp [hg]))
            refine ⟨d1 ++ d2, f1 ++ f2, ?_⟩
            have := e1.append e2
            rw [hc] at this
            rw [List.length_append, List.take_add, List.drop_drop]
            exact this
          · cases h
        · cases h
      · cases h
    · cases h

theorem add_add (a : Addr) (i j : Nat) : (a.add i).add j = a.add (i + j) := by
  unfold Addr.add
  by_cases hi : i = 0
  · simp [hi]
  · by_cases hj : j = 0
    · simp [hj]
    · simp [hi, hj, Nat.add_assoc]

theorem flat_ok : ∀ (n : Nat) (t : TypeId) (ts : List Ty), flat P n t = some ts → Flat enc P w spare held t ts
  | 0, _, _, h => by cases h
  | n + 1, t, ts, h => by
    intro fuel cs x hx
    simp only [flat] at h
    split at h
    · rename_i k hu
      simp only [Option.some.injEq] at h
      subst h
      obtain ⟨m, rfl, rfl, hw⟩ := DataW.trod_int hu hx
      exact ⟨_, _, .cons (.int (by simpa [Lit.wf, inR] using hw)) .nil⟩
    · rename_i hu
      simp only [Option.some.injEq] at h
      subst h
      obtain ⟨b, rfl, rfl⟩ := DataW.trod_bool hu hx
      exact ⟨_, _, .cons .bool .nil⟩
    · rename_i hu
      simp only [Option.some.injEq] at h
      subst h
      obtain ⟨s, rfl, rfl, hs⟩ := DataW.trod_string hu hx
      exact ⟨_, _, .cons (.str (by simp only [maxLen] at hs; omega)) .nil⟩
    · rename_i e hu
      split at h
      · rename_i us he
        split at h
        · rename_i hc
          simp only [Option.some.injEq] at h
          subst h
          have ih := flat_ok n e us he
          rcases DataW.trod_slice hu hx with ⟨rfl, rfl⟩ | ⟨a, len, cap, elems, rest, m, _, rfl, rfl, _, hl, hm, hlen, hel, _, _⟩
          · exact ⟨_, _, .cons .nil .nil⟩
          · have hm' : cap < 9223372036854775808 := by simp only [maxLen] at hm; omega
            cases len with
            | zero => exact ⟨_, _, .cons (.emp rfl hm') .nil⟩
            | succ len =>
              have each : ∀ i, i < len + 1 → ∃ vs ds f, (∀ j, j < us.length → w.cell? (a.add (i * us.length + j)) = vs[j]?) ∧ vs.length = us.length ∧ RepC w false us vs ds f := by
                intro i hi
                have h1 := hel i hi
                have h2 : ∃ y, elems[i]? = some y := at_some' (by omega)
                obtain ⟨y, hy⟩ := h2
                rw [hy, Option.bind_eq_some_iff] at h1
                obtain ⟨vs, hvs, hv⟩ := h1
                obtain ⟨ds, f, hr⟩ := ih _ _ _ hv
                have h3 := World.cells?_some hvs
                rw [hc.1] at h3
                refine ⟨vs, ds, f, ?_, h3.2.1, hr⟩
                intro j hj
                rw [← h3.2.2 j hj, add_add]
              have all : ∀ k, k ≤ len + 1 → ∃ vs l f, vs.length = k * us.length ∧ l.length = k ∧ (∀ j, j < vs.length → w.cell? (a.add j) = vs[j]?) ∧ RepL w false us vs l f := by
                intro k
                induction k with
                | zero => intro _; exact ⟨[], [], [], by simp, rfl, fun j hj => absurd hj (by simp), .nil⟩
                | succ k ihk =>
                  intro hk
                  obtain ⟨vs, l, f, a1, a2, a3, a4⟩ := ihk (by omega)
                  obtain ⟨vs', ds, f', b1, b2, b3⟩ := each k (by omega)
                  have one := RepL.cons b3 .nil
                  simp only [List.append_nil] at one
                  refine ⟨vs ++ vs', l ++ [ds], f ++ f', by simp [a1, b2, Nat.add_mul], by simp [a2], ?_, a4.append one⟩
                  intro j hj
                  by_cases h1 : j < vs.length
                  · rw [a3 j h1, List.getElem?_append_left h1]
                  · rw [List.getElem?_append_right (by omega), ← b1 (j - vs.length) (by simp at hj; omega)]
                    congr 2
                    omega
              obtain ⟨vs, l, f, a1, a2, a3, a4⟩ := all (len + 1) (Nat.le_refl _)
              have hv0 : 0 < vs.length := by
                rw [a1]
                exact Nat.mul_pos (by omega) hc.2
              have c0 := a3 0 hv0
              rw [List.getElem?_eq_getElem hv0] at c0
              simp only [Addr.add, if_true] at c0
              have hb : a.block < w.heap.size ∧ a.spot = none := by
                unfold World.cell? at c0
                split at c0
                · rename_i hh
                  refine ⟨?_, ?_⟩
                  · rcases Nat.lt_or_ge a.block w.heap.size with h | h
                    · exact h
                    · rw [Array.getElem?_eq_none h] at hh
                      cases hh
                  · cases hs : a.spot with
                    | none => rfl
                    | some s => rw [hs] at c0; simp at c0
                · cases c0
              obtain ⟨b, o, sp⟩ := a
              simp only at hb
              obtain ⟨hb, rfl⟩ := hb
              have hold : Holds w b o vs := by
                intro k hk
                rw [← a3 k hk]
                unfold Addr.add
                split
                · rename_i h0
                  subst h0
                  rfl
                · rfl
              exact ⟨_, _, .cons (.sl hold a2 hl hm' (fun h => by cases h) hb a4) .nil⟩
        · cases h
      · cases h
    · rename_i fs hu
      split at h
      · rename_i us he
        split at h
        · rename_i hc
          simp only [Option.some.injEq] at h
          subst h
          obtain ⟨xs, m, _, rfl, hl, hlen, hf⟩ := DataW.trod_struct hu hx
          obtain ⟨ds, f, hr⟩ := flatF_ok (n := m) (cs := cs) (fun t ts h => flat_ok n t ts h) fs.toList 0 us he (by
            intro g hg
            obtain ⟨i, hi⟩ := List.getElem?_of_mem hg
            rw [Array.getElem?_toList] at hi
            have hi' : i < fs.size := by
              rcases Nat.lt_or_ge i fs.size with h | h
              · exact h
              · rw [Array.getElem?_eq_none h] at hi
                cases hi
            obtain ⟨y, hy⟩ := at_some' (l := xs) (n := i) (by omega)
            exact ⟨y, by rw [hf i g hi, hy]⟩)
          rw [List.drop_zero, List.take_of_length_le (by omega)] at hr
          exact ⟨_, _, hr⟩
        · cases h
      · cases h
    · cases h
where
  at_some' {α : Type} {l : List α} {n : Nat} (h : n < l.length) : ∃ x, l[n]? = some x := ⟨l[n], List.getElem?_eq_getElem h⟩

/-- A parameter that is read alone. -/
def isAgg (P : Program) (t : TypeId) : Bool := match P.underlying t with
  | some (.struct _) => true
  | _ => false
def parsOf (P : Program) (n : Nat) : List TypeId → Option (List PK)
  | [] => some []
  | t :: ts => match flat P n t, parsOf P n ts with
    | some us, some ps => some (.val (us.map fun u => (u, .ro)) (isAgg P t) :: ps)
    | _, _ => none

theorem cellsIn_ro : ∀ {ts : List Ty} {cs : List Value} {ds : List D} {f : List Nat}, RepC w false ts cs ds f → CellsIn w (ts.map fun u => (u, .ro)) cs ds f [] []
  | _, _, _, _, .nil => .nil
  | _, _, _, _, .cons h1 h2 => .ro (.inr rfl) h1 (cellsIn_ro h2)

theorem argVal_of {r : Reach} {base n : Nat} {t : TypeId} {us : List Ty} {v : Value} (hf : flat P n t = some us) (h : Value.okWide P w r base t v) : argVal (isAgg P t) v.cells.toList v := by
  cases n with
  | zero => cases hf
  | succ n =>
    simp only [flat] at hf
    unfold Value.okWide at h
    unfold isAgg argVal
    split at hf
    · rename_i k hu
      rw [hu] at h ⊢
      simp [Cell.okWide, Cell.ok, hu] at h ⊢
      cases v <;> simp_all [Value.cells]
    · rename_i hu
      rw [hu] at h ⊢
      simp [Cell.okWide, Cell.ok, hu] at h ⊢
      cases v <;> simp_all [Value.cells]
    · rename_i hu
      rw [hu] at h ⊢
      simp [Cell.okWide, Cell.ok, hu] at h ⊢
      cases v <;> simp_all [Value.cells]
    · rename_i e hu
      rw [hu] at h ⊢
      simp [Cell.okWide, Cell.ok, hu] at h ⊢
      cases v <;> simp_all [Value.cells]
    · rename_i fs hu
      rw [hu] at h ⊢
      obtain ⟨cs, rfl, _⟩ := h
      simp [Value.cells]
    · cases hf

theorem args_in {r : Reach} {base n : Nat} : ∀ (tys : List TypeId) (pks : List PK) (vs : List Value) (ds : List (DataW H)) (ps : List MemPlace), parsOf P n tys = some pks → DataW.TrodAll enc P w 0 spare held tys vs ds ps →
    (∀ (j : Nat) t v, tys[j]? = some t → vs[j]? = some v → Value.okWide P w r base t v) → ∃ dd ro, ArgsIn w pks vs dd ro [] []
  | [], pks, vs, ds, ps, hp, ht, hv => by
    simp only [parsOf, Option.some.injEq] at hp
    subst hp
    obtain ⟨rfl, _, _⟩ := trodAll_nil ht
    exact ⟨[], [], .nil⟩
  | t :: tys, pks, vs, ds, ps, hp, ht, hv => by
    obtain ⟨v, vs', d, ds', p, q, rfl, rfl, rfl, h1, h2⟩ := trodAll_cons ht
    simp only [parsOf] at hp
    split at hp
    · rename_i us pks' hu hps
      simp only [Option.some.injEq] at hp
      subst hp
      obtain ⟨fuel, hf⟩ := h1
      obtain ⟨dd, f, hr⟩ := flat_ok n t us hu _ _ _ hf
      obtain ⟨dd', ro, hr'⟩ := args_in tys pks' vs' ds' q hps h2 (fun j t v a b => hv (j + 1) t v (by simpa using a) (by simpa using b))
      exact ⟨_, _, .val (M := []) (A := []) (argVal_of hu (hv 0 t v rfl rfl)) (cellsIn_ro hr) hr'⟩
    · cases hp

theorem trodAll_stays {W W' : World} (hl : laidOutB P = true) (hB : Below W.heap.size W W') : ∀ {ts : List TypeId} {vs : List Value} {ds : List (DataW H)} {ps : List MemPlace}, (∀ t ∈ ts, P.readableRec t = true ∧ t < P.types.size) →
    DataW.TrodAll enc P W 0 (fun _ => true) true ts vs ds ps → (∀ x ∈ ps, x.block < W.heap.size) → DataW.TrodAll enc P W' 0 (fun b => decide (b < W.heap.size)) true ts vs ds ps
  | [], _, _, _, _, h, _ => by
    obtain ⟨rfl, rfl, rfl⟩ := trodAll_nil h
    exact trodAll_mk0
  | t :: ts, _, _, _, hr, h, hp => by
    obtain ⟨v, vs', d, ds', p, q, rfl, rfl, rfl, h1, h2⟩ := trodAll_cons h
    exact trodAll_cons_mk (Below.trod hl (hr t (by simp)).1 (hr t (by simp)).2 h1 hB (fun x hx => hp x (by simp [hx]))) (trodAll_stays hl hB (fun t ht => hr t (by simp [ht])) h2 (fun x hx => hp x (by simp [hx])))

/-- A law's form, from what the machine says of its call: it returns true, and of what was there nothing has turned. -/
theorem law_post {fn : Func} {s : ChangeSpec} {apart fresh handsOn : Bool} {W W' : World} {args : Array Value} {ds gs : List (DataW H)} {before : List MemPlace} {tb : TypeId} (hl : laidOutB P = true)
    (hread' : fn.params.toList.all (fun t => P.readableRec t && decide (t < P.types.size)) = true) (hvars : s.vars = []) (hres : fn.resultTypes = #[tb]) (htb : P.underlying tb = some .bool)
    (hs : (s.fn H (ds ++ gs)).results = [.lit (.bool true)]) (hs' : (s.fn H (ds ++ gs)).args = ds) (hs'' : (s.fn H (ds ++ gs)).vars = [])
    (hW : DataW.Whole enc P fn.params.toList s.vars apart W args.toList ds gs before) (hB : Below W.heap.size W W') : s.post enc P fn apart fresh handsOn false W args (.bool true) W' := by
  have hread : ∀ t ∈ fn.params.toList, P.readableRec t = true ∧ t < P.types.size := by
    simpa only [List.all_eq_true, Bool.and_eq_true, decide_eq_true_eq] using hread'
  have hlt : ∀ x ∈ before, x.block < W.heap.size := fun x hx => hW.lt x hx
  have hW' := hW
  obtain ⟨p, q, hA, hV, rfl, hfz, hnd⟩ := hW
  rw [hvars] at hV
  obtain ⟨rfl, rfl⟩ := trodVars_none hV
  refine ⟨ds, [], p ++ [], [], p, [], hW', ?_, ?_, ?_, hB.frame _, fun h => by cases h⟩
  · rw [hres, hs]
    exact trodAll_mk1 (shut_bool htb true)
  · rw [hs']
    exact trodAll_stays hl hB hread hA (fun x hx => hlt x (by simp [hx]))
  · rw [hvars, hs'']
    rfl

end

theorem args_one {w : World} {t : List Ty} {args : List Value} {dd : List D} {ro M A : List Nat} (h : ArgsIn w [.val [(.sl t, .ro)] false] args dd ro M A) : ∃ cd, dd = [.sl cd] := by
  cases h with
  | val _ hc ha =>
    cases ha
    cases hc with
    | ro _ h1 h2 =>
      cases h2
      cases h1 <;> exact ⟨_, rfl⟩

/-- The call of a law of the table: it returns what the table's data say. -/
theorem law_calls {P : Program} (hmix : P.follows .mixedOrders = true) {l : List Fd} (hl : TabOk P l) {f : Nat} {sg : Sig} (hs : sigsOf l f = some sg) (hres : sg.res = [⟨[(.bool, .ro)], .one⟩]) {W : World} {args : List Value} {ds : List D} {ro : List Nat} (hin : ArgsIn W sg.params args ds ro [] [])
    (hp : (Tab l).2 f ds) {b : Bool} (hg : (Tab l).1 f ds = [.bool b]) : Calls P f args.toArray W fun e W' => e = .returned (.bool b) ∧ Below W.heap.size W W' := by
  refine ((tab_ok hmix hl f sg hs).2 W args ds ro [] [] (fun _ => False) hin List.nodup_nil (fun k _ => ⟨by simp, fun h => h⟩) (fun k hk => nomatch hk) (fun k hk => hk.elim) (fun k hk => nomatch hk) trivial hp).mono ?_
  rintro e w' ⟨v, rfl, hc⟩
  have hk := hc.kept
  refine ⟨?_, hk.os, hk.tape, hk.output, hk.size, fun k hk' => hk.block k hk' (by simp)⟩
  obtain ⟨vs, d1, d2, H1, O1, R1, H2, O2, R2, hv, hd, hr, hb, _⟩ := hc.res
  rw [hg] at hd
  rw [hres] at hr
  cases hr with
  | val hsh hav hco hr' =>
    cases hr' with
    | nil =>
      cases hco with
      | ro _ h1 h2 =>
        cases h2
        cases h1
        simp [argVal] at hav
        simp at hd
        simp [retVal] at hv
        subst hv
        rw [← hav]
        congr 2
        exact hd.1.symm
      
end Go.Sx
