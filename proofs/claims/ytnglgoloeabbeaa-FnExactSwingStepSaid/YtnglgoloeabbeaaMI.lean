/-
  The machine, part I: fields, structs that are written out.
-/
import Derived.Test.YtnglgoloeabbeaaMH
import Derived.Great.BuildSlice
namespace Go.Sx
open Go Go.RowKit
set_option linter.unusedSimpArgs false
set_option linter.unusedVariables false

section
variable {P : Program} {c : Ctx} {sl : Nat → AV} {a : Act} {B : Base} {o : Oper} {sigs : Nat → Option Sig} {clean : List Nat} {g : E} {e : Eff} {pre : Nat → List D → Prop}

theorem fieldOff_spec {t ft : TypeId} {f off : Nat} (h : fieldOff P t f = some (off, ft)) : ∃ fs fd, P.underlying t = some (.struct fs) ∧ fs[f]? = some fd ∧ fd.offset = off ∧ fd.type = ft := by
  unfold fieldOff at h
  split at h
  case h_2 => simp at h
  rename_i fs hu
  split at h
  case h_2 => simp at h
  rename_i fd hfd
  split at h
  case h_2 => simp at h
  rename_i i hi
  split at h
  · simp at h
  simp only [Option.some.injEq, Prod.mk.injEq] at h
  exact ⟨fs, fd, hu, hfd, h.1, h.2⟩

theorem field_ok (s : Sim B c sl a) (hg : (c.den g).b = true) {t : TypeId} {x : Operand} {f : Nat} (ho : o.op = .field t x f)
    (h : (opEff P sigs clean g o).val sl c.hp = some e) : Does P o a c e := by
  simp only [opEff, ho, Rd.val_bind, Rd.val_opt] at h
  replace h := bind_some h; obtain ⟨⟨off, ft⟩, hf, h⟩ := h
  replace h := bind_some h; obtain ⟨ts, hts, h⟩ := h
  replace h := bind_some h; obtain ⟨agg, hagg, h⟩ := h
  replace h := bind_some h; obtain ⟨ax, hx, h⟩ := h
  have vx := evalG_ok s hg hx
  obtain ⟨fs, fd, hu, hfd, rfl, rfl⟩ := fieldOff_spec hf
  split at h
  case h_2 => simp at h
  rename_i l
  simp only [Rd.val_bind, Rd.val_opt, Rd.if_bind, decide_eq_true_eq] at h
  obtain ⟨hle, h⟩ := h
  replace h := bind_some h; obtain ⟨v, hv, h⟩ := h
  simp at h; subst h
  obtain ⟨vs, e1, h2⟩ := vx
  have hlen := avs_len h2
  obtain ⟨k1, k2⟩ := wrapAgg_ok hv (avs_take ts.length (avs_drop fd.offset h2))
  refine does_still (v := varVal agg ((vs.drop fd.offset).take ts.length)) ?_ k1
  have hvl : ((vs.drop fd.offset).take ts.length).length = ts.length := by simp; omega
  rw [hvl] at k2
  have hp : (part fd.type vs.toArray fd.offset).run P c.w = .ok (varVal agg ((vs.drop fd.offset).take ts.length)) c.w := by
    unfold part
    simp only [Sem.run_bind, run_isAgg hagg, Result.andThen_ok]
    cases agg with
    | true =>
      simp [run_sizeOf hts, varVal, List.extract_eq_take_drop]
    | false =>
      have h1 : ts.length = 1 := by simpa using k2
      rw [h1] at hle ⊢
      have hlt : fd.offset < vs.length := by omega
      have : vs.toArray[fd.offset]? = some vs[fd.offset] := by simp [hlt]
      simp only [this, varVal]
      have hd : (vs.drop fd.offset).take 1 = [vs[fd.offset]] := by rw [List.drop_eq_getElem_cons hlt]; rfl
      simp [hd]
  simp [execOp, ho, e1, Instr.field, run_underlying hu, hfd, asAgg, hp]

/-! ### Zero values -/

theorem zeroAV_ok {t : Ty} {v : Value} {x : AV} (h : zeroAV t v = some x) : AVOk c x v ∧ x.plain = true ∧ v.oneCell' = true := by
  unfold zeroAV at h
  split at h
  · split at h <;> simp at h
    rename_i hk
    subst h
    obtain ⟨rfl, rfl⟩ := hk
    refine ⟨⟨rfl, .int ?_⟩, rfl, rfl⟩
    rename_i k
    cases k <;> simp [inR, IntKind.min, IntKind.max, IntKind.signed, IntKind.bits]
  · simp at h; subst h; exact ⟨⟨rfl, .bool⟩, rfl, rfl⟩
  · split at h <;> simp at h
    rename_i hs
    subst h
    refine ⟨⟨rfl, ?_⟩, rfl, rfl⟩
    rename_i bs
    have hbs : bs.data.toList = [] := List.eq_nil_of_length_eq_zero hs
    have := Rep.str (w := c.w) (ow := false) (s := bs) (by omega)
    rw [hbs] at this
    exact this
  · simp at h; subst h; exact ⟨⟨rfl, .err0⟩, rfl, rfl⟩
  · simp at h; subst h; exact ⟨rfl, rfl, rfl⟩
  · simp at h

theorem zeroAVs_ok : ∀ {ts : List Ty} {vs : List Value} {l : List AV}, zeroAVs ts vs = some l → AVsOk c l vs ∧ l.length = ts.length ∧ (∀ x ∈ l, x.plain = true) ∧ ∀ v ∈ vs, v.oneCell' = true
  | [], [], l, h => by simp [zeroAVs] at h; subst h; exact ⟨trivial, rfl, by simp, by simp⟩
  | t :: ts, v :: vs, l, h => by
    unfold zeroAVs at h
    split at h
    case h_2 => simp at h
    rename_i x l' h1 h2
    simp at h; subst h
    obtain ⟨a1, a2, a3⟩ := zeroAV_ok (c := c) h1
    obtain ⟨b1, b2, b3, b4⟩ := zeroAVs_ok h2
    refine ⟨⟨a1, b1⟩, by simp [b2], fun x hx => ?_, fun x hx => ?_⟩
    · rcases List.mem_cons.1 hx with rfl | hx
      · exact a2
      · exact b3 _ hx
    · rcases List.mem_cons.1 hx with rfl | hx
      · exact a3
      · exact b4 _ hx
  | [], _ :: _, l, h | _ :: _, [], l, h => by simp [zeroAVs] at h

theorem zeroOf_ok {t : TypeId} {l : List AV} (h : zeroOf P t = some l) : ∃ ts i z, tyOf P t = some ts ∧ P.info? t = some i ∧ i.zero = some z ∧ i.size = ts.length ∧
    AVsOk c l z.cells.toList ∧ l.length = ts.length ∧ (∀ x ∈ l, x.plain = true) ∧ ∀ v ∈ z.cells.toList, v.oneCell' = true := by
  unfold zeroOf at h
  split at h
  case h_2 => simp at h
  rename_i ts v ht hv
  simp only [Option.bind_eq_some_iff] at hv
  obtain ⟨i, hi, hz⟩ := hv
  obtain ⟨i', hi', hs⟩ := tyOf_size ht
  rw [hi] at hi'
  simp only [Option.some.injEq] at hi'
  subst hi'
  obtain ⟨a1, a2, a3, a4⟩ := zeroAVs_ok (c := c) h
  exact ⟨ts, i, v, ht, hi, hz, hs, a1, a2, a3, a4⟩

/-! ### What is written out -/

theorem setpart_list (off : Nat) (l : List Value) (cs : Array Value) (h : off + l.length ≤ cs.size) :
    ((l.toArray.zipIdx).foldl (fun cs (x : Value × Nat) => cs.setIfInBounds (off + x.2) x.1) cs).toList = cs.toList.take off ++ l ++ cs.toList.drop (off + l.length) := by
  obtain ⟨h1, h2⟩ := Great.foldl_set off l 0 cs
  rw [← Array.foldl_toList, Array.toList_zipIdx]
  apply List.ext_getElem?
  intro k
  have := h2 k
  simp only [Nat.add_zero] at this
  rw [Array.getElem?_toList, this]
  by_cases hk : k < off
  · rw [if_neg (by omega), List.append_assoc, List.getElem?_append_left (by simp; omega), List.getElem?_take_of_lt hk]
    simp
  · by_cases hk2 : k < off + l.length
    · rw [if_pos ⟨by omega, hk2, by omega⟩, List.getElem?_append_left (by simp; omega), List.getElem?_append_right (by simp; omega)]
      congr 1
      simp; omega
    · rw [if_neg (by omega), List.getElem?_append_right (by simp; omega), List.getElem?_drop, Array.getElem?_toList]
      congr 1
      simp; omega

theorem fill_ok {ps : List (Nat × Nat)} : ∀ {parts : List (Nat × AV)} {pvs : List (Nat × Value)} {cs r : List AV} {cells : Array Value}, parts.map (·.1) = pvs.map (·.1) → AVsOk c (parts.map (·.2)) (pvs.map (·.2)) →
    AVsOk c cs cells.toList → fillAV ps cs parts = some r → ∃ out, Instr.fill (ps.toArray[·]?) cells pvs = some out ∧ AVsOk c r out.toList ∧ r.length = cs.length
  | [], [], cs, r, cells, _, _, hc, h => by simp [fillAV] at h; subst h; exact ⟨cells, rfl, hc, rfl⟩
  | (i, x) :: parts, (i', v) :: pvs, cs, r, cells, hi, hp, hc, h => by
    simp only [List.map_cons, List.cons.injEq] at hi
    obtain ⟨rfl, hi⟩ := hi
    unfold fillAV at h
    split at h
    case h_2 => simp at h
    rename_i off n hps
    split at h
    case isFalse => simp at h
    rename_i hcond
    simp only [Bool.and_eq_true, decide_eq_true_eq] at hcond
    obtain ⟨⟨hpl, hn⟩, hle⟩ := hcond
    have hvc := cells_ok hp.1 hpl
    have hl1 := avs_len hvc
    have hl2 := avs_len hc
    have hn' : v.cells.size = n := by rw [← Array.length_toList, hl1, hn]
    have hcs : cells.size = cs.length := by rw [← Array.length_toList, hl2]
    have hl := setpart_list off v.cells.toList cells (by simp [hn', hcs]; omega)
    have hnew : AVsOk c (cs.take off ++ x.cells ++ cs.drop (off + n)) ((v.cells.zipIdx).foldl (fun cs (x : Value × Nat) => cs.setIfInBounds (off + x.2) x.1) cells).toList := by
      rw [show v.cells.zipIdx = v.cells.toList.toArray.zipIdx from by simp, hl]
      refine avs_append (avs_append (avs_take off hc) hvc) ?_
      rw [Array.length_toList, hn']
      exact avs_drop _ hc
    obtain ⟨out, h1, h2, h3⟩ := fill_ok hi hp.2 hnew h
    have hxl : x.cells.length = n := hn
    refine ⟨out, ?_, h2, by rw [h3]; simp only [List.length_append, List.length_take, List.length_drop]; omega⟩
    have hp' : ps.toArray[i]? = some (off, n) := by simpa using hps
    unfold Instr.fill
    simp only [hp']
    rw [if_neg (by simp [hn']; omega)]
    exact h1
  | [], _ :: _, _, _, _, hi, _, _, _ => by simp at hi
  | _ :: _, [], _, _, _, hi, _, _, _ => by simp at hi

theorem mapRd_parts (s : Sim B c sl a) (hg : (c.den g).b = true) : ∀ {l : List (Nat × Operand)} {vs : List (Nat × AV)},
    (mapRd (fun (x : Nat × Operand) => do .pure (x.1, ← evalG g x.2)) l).val sl c.hp = some vs → vs.map (·.1) = (l.map fun (i, x) => (i, a.eval x)).map (·.1) ∧ AVsOk c (vs.map (·.2)) ((l.map fun (i, x) => (i, a.eval x)).map (·.2))
  | [], vs, h => by simp [mapRd] at h; subst h; exact ⟨rfl, trivial⟩
  | (i, x) :: l, vs, h => by
    simp only [mapRd, Rd.val_bind] at h
    replace h := bind_some h; obtain ⟨y, hy, h⟩ := h
    replace hy := bind_some hy; obtain ⟨z, hz, hy⟩ := hy
    replace h := bind_some h; obtain ⟨ys, hys, h⟩ := h
    simp at hy h
    subst hy; subst h
    obtain ⟨a1, a2⟩ := mapRd_parts s hg hys
    exact ⟨by simpa using a1, evalG_ok s hg hz, a2⟩

theorem build_ok (s : Sim B c sl a) (hg : (c.den g).b = true) {t : TypeId} {parts : Array (Nat × Operand)} (ho : o.op = .build t parts)
    (h : (opEff P sigs clean g o).val sl c.hp = some e) : Does P o a c e := by
  simp only [opEff, ho, Rd.val_bind, Rd.val_opt] at h
  replace h := bind_some h; obtain ⟨z, hz, h⟩ := h
  replace h := bind_some h; obtain ⟨ps, hps, h⟩ := h
  replace h := bind_some h; obtain ⟨vs, hvs, h⟩ := h
  replace h := bind_some h; obtain ⟨cs, hcs, h⟩ := h
  simp at h; subst h
  obtain ⟨ts, i, zv, q1, q2, q3, q4, q5, q6, q7, q8⟩ := zeroOf_ok (c := c) hz
  obtain ⟨m1, m2⟩ := mapRd_parts s hg hvs
  obtain ⟨out, f1, f2, _⟩ := fill_ok m1 m2 q5 hcs
  unfold buildPlaces at hps
  split at hps
  case h_2 => simp at hps
  rename_i fs hu
  refine does_still (v := .agg out) ?_ ⟨out.toList, by simp, f2⟩
  have hb : P.built t (parts.map fun (i, x) => (i, a.eval x)).toList = some out := by
    unfold Program.built
    simp only [q2, hu, q3, hps]
    simpa using f1
  simp [execOp, ho, run_build c.w t _ out hb]

end
end Go.Sx
